/- APPEND, of a slice that may be nil; parts of a list of numbers. -/
import Derived.Test.YtfmmgijffneodaaSame
import Derived.OwnWalk
import Derived.Laws.AppendOwnNone
namespace Go.Proofs.Ytfmmgijffneodaa
open Go.RowKit Go.Joins
set_option linter.unusedSimpArgs false
set_option linter.unusedVariables false
theorem append_any {P : Program} {w : World} {ops : Array Oper} {rest : List Oper} {o : Oper} {a : Act} {Q : Exit → Act → World → Prop} (hgd : o.guard = none) (s x : Operand) (t : TypeId)
    (ho : o.op = .call { callee := .builtin .append, args := #[s, x], argTypes := #[t, t] })
    (base : Nat) (e : TypeId) (i : TypeInfo) (z : Value) (size bytes : Nat) (ht : P.underlying t = some (.slice e)) (hi : P.info? e = some i) (hz : i.zero = some z)
    (hsize : i.size = size) (hby : i.bytes = bytes) (hzs : z.cells.size = size) (hsz : 0 < size)
    (v : Value) (n : Nat) (xs : List Value) (hs : a.eval s = v) (hown : w.ownsRow base e size v n xs)
    (ao : Option Addr) (m c : Nat) (news : List Value) (hx : a.eval x = .slice ao m c) (hl : news.length = m * size) (hnone : ao = none → m = 0 ∧ c = 0)
    (hnews : ∀ ad, ao = some ad → ∀ j u, news[j]? = some u → w.cell? (ad.add j) = some u) (h1 : ∀ u ∈ news, u.oneCell' = true)
    (h63 : n + m ≤ maxLen) (hbytes : (n + m) * bytes ≤ 140737488355328) (hbase : base ≤ w.heap.size)
    (h : ∀ v' w', w'.ownsRow base e size v' (n + m) (xs ++ news) → w.grownBy w' v.ownBlock → wpList P ops Q rest (a.put o.dst v') w') : wpList P ops Q (o :: rest) a w := by
  cases ao with
  | some ad => exact wpList_append_own w hgd s x t ho base e i z size bytes ht hi hz hsize hby hzs hsz v n xs hs hown ad m c news hx hl (hnews ad rfl) h1 h63 hbytes hbase fun v' w' h2 h3 _ => h v' w' h2 h3
  | none =>
    obtain ⟨rfl, rfl⟩ := hnone rfl
    have hn : news = [] := List.eq_nil_of_length_eq_zero (by simpa using hl)
    subst hn
    exact wpList_append_own_none hgd s x t ho base e i size ht hi v n xs hs hown hx (h v w (by simpa using hown) (World.grownBy.refl _ _))
/-- the cells of a part of a list, from i on -/
theorem part_cells {w : World} {B : Nat} {L P : List Int} (h : IntsAt w (some ⟨B, 0, none⟩) L) (i : Nat) (hP : ∀ (j : Nat) x, P[j]? = some x → L[i + j]? = some x)
    {ao : Option Addr} (hao : P ≠ [] → ao = some ⟨B, i, none⟩) : ∀ ad, ao = some ad → ∀ (j : Nat) u, (ints P)[j]? = some u → w.cell? (ad.add j) = some u := by
  intro ad had j u hu
  unfold ints at hu
  rw [List.getElem?_map, Option.map_eq_some_iff] at hu
  obtain ⟨x, hx, rfl⟩ := hu
  have hne : P ≠ [] := by rintro rfl; simp at hx
  rw [hao hne] at had
  obtain rfl := Option.some.inj had
  rw [Addr.add_lit]
  obtain ⟨hlt, hl⟩ := List.getElem?_eq_some_iff.1 (hP j x hx)
  obtain ⟨B', e, hc⟩ := h (i + j) hlt
  cases e
  rw [hc, hl]
theorem take_get {L : List Int} {n : Nat} : ∀ (j : Nat) x, (L.take n)[j]? = some x → L[0 + j]? = some x := by
  intro j x h
  rw [List.getElem?_take] at h
  split at h
  · rw [Nat.zero_add]; exact h
  · cases h
theorem drop_get {L : List Int} {n : Nat} : ∀ (j : Nat) x, (L.drop n)[j]? = some x → L[n + j]? = some x := by
  intro j x h
  rwa [List.getElem?_drop] at h
/-- a row is none, or a block -/
theorem row_cases {w : World} {base : Nat} {v : Value} {M : List Int} (h : w.ownsRow base 3 1 v M.length (ints M)) : (v = .slice none 0 0 ∧ M = []) ∨ ∃ B cap, v = .slice (some ⟨B, 0, none⟩) M.length cap ∧ M.length ≤ cap ∧ cap ≤ maxLen := by
  rcases h.2 with ⟨rfl, h0⟩ | ⟨B, cap, cur, he, _, hb, hnc, hc, hs, ht⟩
  · exact .inl ⟨rfl, List.length_eq_zero_iff.1 h0⟩
  · exact .inr ⟨B, cap, he, hnc, hc⟩
theorem rowForm {w : World} {base : Nat} {v : Value} {M : List Int} {n : Nat} (h : w.ownsRow base 3 1 v n (ints M)) (hn : M.length = n) : ∃ ao cap, v = .slice ao n cap ∧ IntsAt w ao M := by
  subst hn
  exact row_form h
theorem rowAt {w : World} {base : Nat} {ao : Option Addr} {n cap : Nat} {M : List Int} (h : w.ownsRow base 3 1 (.slice ao n cap) n (ints M)) (hn : M.length = n) : IntsAt w ao M := by
  obtain ⟨ao', cap', e, hM⟩ := rowForm h hn
  cases e
  exact hM
theorem rowCh {w w' : World} {base : Nat} {F : Nat → Prop} {v : Value} {n : Nat} {L : List Int} (h : w.ownsRow base 3 1 v n (ints L)) (c : Ch F w w') (hF : ∀ x, F x → x < base) : w'.ownsRow base 3 1 v n (ints L) :=
  own_ch h c (fun b hb hf => by have := (h.lt b hb).1; have := hF b hf; omega)
theorem Rope.bound {F : Nat → Prop} {w : World} {r : Nat} {L : List Int} {hid : Int → Bool} (h : Rope w r L hid F) : Rope w r L hid (fun x => F x ∧ x < w.heap.size) := by
  obtain ⟨h4, wb, hb, rs, G, hR', hf, hF, hs⟩ := h
  exact ⟨h4, wb, hb, rs, G, hR', hf, fun x hx => ⟨hF x hx, foot_lt hR' x hx⟩, hs⟩
theorem cnt_shown_ins {L : List Int} {hid : Int → Bool} {k : Int} {n : Nat} (hn : L.Nodup) (hk : k ∉ L) : cnt (setH hid k false) (L.take n ++ k :: L.drop n) = cnt hid L + 1 := by
  have h1 := cnt_set (hid := setH hid k true) (b := false) (ins_nodup (n := n) hn hk) (ins_mem.2 (Or.inl rfl))
  rw [cnt_ins hk, setH_twice] at h1
  have : setH hid k true k = true := by simp [setH]
  rw [this] at h1
  simpa using h1
theorem one_cells (w : World) (k : Int) (t : TypeId) : ∀ ad, (some (⟨w.heap.size, 0, none⟩ : Addr)) = some ad → ∀ (j : Nat) u, (ints [k])[j]? = some u → (w.alloc (.cells #[.int .i64 k] t)).cell? (ad.add j) = some u := by
  intro ad h j u hu
  cases h
  match j, hu with
  | 0, hu =>
    rw [Addr.add_lit, blk_cell (blk_new _ _)]
    exact hu
theorem want_row {w : World} {base n m : Nat} {v : Value} {L : List Int} {k : Int} (hm : m ≤ L.length) (h : w.ownsRow base 3 1 v n ([] ++ ints (L.take m) ++ ints [k] ++ ints (L.drop m))) : w.ownsRow base 3 1 v (L.take m ++ k :: L.drop m).length (ints (L.take m ++ k :: L.drop m)) := by
  have e : [] ++ ints (L.take m) ++ ints [k] ++ ints (L.drop m) = ints (L.take m ++ k :: L.drop m) := by simp [ints]
  rw [e] at h
  have hl := h.1
  rw [ints_length, Nat.mul_one] at hl
  rw [hl]; exact h
theorem same_self (w : World) (ao bo : Option Addr) (n ca cb : Nat) (L : List Int) (hA : IntsAt w ao L) (hB : IntsAt w bo L) (hn : L.length = n) (hl : n < 4294967296) :
    Calls Try.prog 15 #[.slice ao n ca, .slice bo n cb] w fun e w' => e = .returned (.bool true) ∧ Below w.heap.size w w' := by
  subst hn
  have := same_any w ao bo ca cb L L hA hB hl
  rwa [show decide (L = L) = true from decide_eq_true rfl] at this
end Go.Proofs.Ytfmmgijffneodaa
