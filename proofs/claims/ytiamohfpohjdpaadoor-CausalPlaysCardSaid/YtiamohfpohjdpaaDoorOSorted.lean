/- ops.Sort: what it answers, of any list. -/
import Derived.Test.YtiamohfpohjdpaaDoorOSort
import Derived.OwnWalk
import Derived.Laws.AppendOwnNone
namespace Go.Proofs.YtiamohfpohjdpaaDoor
open Go.RowKit Go.Joins
set_option linter.unusedSimpArgs false
set_option linter.unusedVariables false
theorem append_any {P : Program} {w : World} {ops : Array Oper} {rest : List Oper} {o : Oper} {a : Act} {Q : Exit → Act → World → Prop} (hgd : o.guard = none) (s x : Operand) (t : TypeId)
    (ho : o.op = .call { callee := .builtin .append, args := #[s, x], argTypes := #[t, t] })
    (base : Nat) (e : TypeId) (i : TypeInfo) (z : Value) (size bytes : Nat) (ht : P.underlying t = some (.slice e)) (hi : P.info? e = some i) (hz : i.zero = some z)
    (hsize : i.size = size) (hby : i.bytes = bytes) (hzs : z.cells.size = size) (hsz : 0 < size)
    (v : Value) (n : Nat) (xs : List Value) (hs : a.eval s = v) (hown : w.ownsRow base e size v n xs)
    (ao : Option Addr) (m c : Nat) (news : List Value) (hx : a.eval x = .slice ao m c) (hl : news.length = m * size) (hnone : ao = none → m = 0 ∧ c = 0)
    (hnews : ∀ ad, ao = some ad → ∀ j u, news[j]? = some u → w.cell? (ad.add j) = some u) (h1 : ∀ u ∈ news, u.oneCell' = true)
    (h63 : n + m ≤ maxLen) (hbytes : (n + m) * bytes ≤ 140737488355328) (hbase : base ≤ w.heap.size)
    (h : ∀ v' w', w'.ownsRow base e size v' (n + m) (xs ++ news) → w.grownBy w' v.ownBlock → wpList P ops Q rest (a.put o.dst v') w') : wpList P ops Q (o :: rest) a w := by
  cases ao with
  | some ad => exact wpList_append_own w hgd s x t ho base e i z size bytes ht hi hz hsize hby hzs hsz v n xs hs hown ad m c news hx hl (hnews ad rfl) h1 h63 hbytes hbase fun v' w' h2 h3 _ => h v' w' h2 h3
  | none =>
    obtain ⟨rfl, rfl⟩ := hnone rfl
    have hn : news = [] := List.eq_nil_of_length_eq_zero (by simpa using hl)
    subst hn
    exact wpList_append_own_none hgd s x t ho base e i size ht hi v n xs hs hown hx (h v w (by simpa using hown) (World.grownBy.refl _ _))
/-- a slice and the operations that it has -/
def SlO (v : Value) (n : Nat) : Prop := ∃ ao c, v = .slice ao n c ∧ (ao = none → c = 0)
theorem OwnO.sl {w : World} {base : Nat} {v : Value} {L : List OpG} (h : OwnO w base v L) : SlO v L.length := by
  rcases h.form with ⟨rfl, rfl⟩ | ⟨B, c, cur, rfl, _⟩
  · exact ⟨none, 0, rfl, fun _ => rfl⟩
  · exact ⟨_, c, rfl, fun e => by cases e⟩
theorem own_emptyW (w : World) : OwnO (w.alloc (.cells #[] 39)) w.heap.size (.slice (some ⟨w.heap.size, 0, none⟩) 0 0) [] :=
  ⟨by simp [cellsL], .inr ⟨w.heap.size, 0, #[], rfl, Nat.le_refl _, blk_new _ _, Nat.le_refl _, Nat.zero_le _, by simp, by simp [cellsL]⟩⟩
set_option maxHeartbeats 1000000 in
theorem clone_none (w : World) : Calls Tryd.prog 29 #[.slice none 0 0] w fun e w' => e = .returned (.slice none 0 0) ∧ Below w.heap.size w w' := by
  have hnil := fun (w : World) => Lib.run_eql_slice_nil (P := Tryd.prog) w 22 39 none 0 0 0 0 Tryd.underlying22
  go_enter Tryd.func29, Tryd.ntmps29
  go_wp2
  go_ret
  exact ⟨rfl, Below.refl _ _⟩
set_option maxHeartbeats 1000000 in
theorem clone_empty (w : World) (ad : Addr) (cap : Nat) : Calls Tryd.prog 29 #[.slice (some ad) 0 cap] w fun e w' => ∃ v, e = .returned v ∧ OwnO w' w.heap.size v [] ∧ Below w.heap.size w w' := by
  have hnil := fun (w : World) => Lib.run_eql_slice_nil (P := Tryd.prog) w 22 39 (some ad) 0 cap 0 0 Tryd.underlying22
  obtain ⟨i0, hi, hz0, hz1, hz2⟩ := info_parts Slot.infoCO
  go_enter Tryd.func29, Tryd.ntmps29
  go_wp2_with (at_builtin; refine append_any rfl (.tmp 5) (.tmp 6) 22 rfl w.heap.size 39 i0 _ 26 _ Tryd.underlying22 hi hz0 hz1 hz2 rfl (by decide) (.slice (some ⟨w.heap.size, 0, none⟩) 0 0) 0 [] rfl (own_emptyW w) (some ad) 0 cap [] rfl rfl (fun h => by cases h) (fun _ _ j u hu => by simp at hu) (fun u hu => by cases hu) (by decide) (by simp) (by simp) ?_; intro v' w' hown hgrow)
  go_ret
  refine ⟨v', rfl, hown, ?_⟩
  exact ((Below.refl _ w).alloc (Nat.le_refl _) _).grown hgrow (by simp) (fun k hk => by cases hk; exact Nat.le_refl _)
/-- slices.Clone, of any list -/
theorem clone_list (w : World) (ao : Option Addr) (cap : Nat) (L : List OpG) (h : OpsAt w ao L) (hn : L.length < 4294967296) (h0 : ao = none → cap = 0) :
    Calls Tryd.prog 29 #[.slice ao L.length cap] w fun e w' => ∃ v, e = .returned v ∧ OwnO w' w.heap.size v L ∧ Below w.heap.size w w' := by
  by_cases hL : L = []
  · subst hL
    cases ao with
    | none =>
      rw [h0 rfl]
      exact (clone_none w).mono fun e w' ⟨h1, h2⟩ => ⟨_, h1, OwnO.nil _ _, h2⟩
    | some ad => exact clone_empty w ad cap
  · exact (clone_ops w ao cap L h hn hL).mono fun e w' ⟨g, c, h1, h2, h3⟩ => ⟨_, h1, h2, h3⟩
set_option maxHeartbeats 1000000 in
/-- ops.Sort, of any list -/
theorem sort_any (w : World) (ao : Option Addr) (cap : Nat) (L : List OpG) (h : OpsAt w ao L) (hn : L.length < 4294967296) (h0 : ao = none → cap = 0) :
    Calls Tryd.prog 24 #[.slice ao L.length cap] w fun e w' => ∃ v S, e = .returned v ∧ SortOf L S ∧ OwnO w' w.heap.size v S ∧ Below w.heap.size w w' := by
  have HC := Lib.hid (clone_list w ao cap L h hn h0)
  clear h
  go_enter Tryd.func24, Tryd.ntmps24
  go_wp2_with fail
  with_reducible refine HC.out.mono ?_
  rintro e w1 ⟨v, rfl, hown, hb⟩
  have HO := Lib.hid hown
  have HB := Lib.hid hb
  rcases hown.form with ⟨rfl, rfl⟩ | ⟨B, cp, cur, rfl, hB, -⟩
  · clear hown hb
    have HS := Lib.hid (sortStable_nil w1)
    go_wp2_with fail
    with_reducible refine HS.out.mono ?_
    rintro e w2 ⟨rfl, rfl⟩
    go_wp2
    go_ret
    exact ⟨_, [], rfl, sortOf_nil, HO.out, HB.out⟩
  · clear hown hb
    have HS := Lib.hid (sortStable_here w1 w.heap.size B cp L HO.out hn)
    have HBB := Lib.hid hB
    clear hB
    go_wp2_with fail
    with_reducible refine HS.out.mono ?_
    rintro e w2 ⟨rfl, S, hs, ho, hc⟩
    go_wp2
    go_ret
    exact ⟨_, S, rfl, hs, by rw [← hs.perm.length_eq] at ho ⊢; exact ho, HB.out.trans (hc.below HB.out.size (fun x hx e => by have := HBB.out; omega))⟩
end Go.Proofs.YtiamohfpohjdpaaDoor
