/- AND AGAIN: plain laws on a list of keys that rises, and what Between answers of two neighbours. -/
import Derived.Test.YtdhhjojfakkjoaaKeysBetween
import Derived.OwnWalk
import Derived.Laws.AppendOwnNone
import Derived.ChangeSlices
namespace Go.Proofs.Ytdhhjojfakkjoaa
open Go.RowKit Go.Joins
set_option linter.unusedSimpArgs false
set_option linter.unusedVariables false

theorem size_not_empty {a : ByteArray} (h : a.toList.isEmpty = false) : a.size ≠ 0 := fun e => by
  have := (toList_nil a).2 e
  rw [this] at h; cases h
theorem keyB_size {a : ByteArray} (h : keyB a.data.toList = true) : 1 ≤ a.size ∧ a.size ≤ 64 := by
  obtain ⟨_, h2, h3, _⟩ := keyB_parts h
  exact ⟨by rw [Lib.size_eq]; exact h2, by rw [Lib.size_eq]; exact h3⟩
theorem between_okay (a b : ByteArray) (ga : a.size = 0 ∨ keyB a.data.toList = true) (gb : b.size = 0 ∨ keyB b.data.toList = true)
    (hl : a.size ≠ 0 → b.size ≠ 0 → Op.bytesLess a.toList b.toList = true) (y : ¬ a.size = 64) (z : ¬ b.size = 64) :
    ∃ k : ByteArray, (∀ w, Calls Try.prog 9 #[.string a, .string b] w fun e w' => e = .returned (.tuple #[.string k, .int .i64 0]) ∧ Below w.heap.size w w') ∧
      keyB k.data.toList = true ∧ Op.bytesLess a.toList k.toList = true ∧ (b.size = 0 ∨ Op.bytesLess k.toList b.toList = true) := by
  obtain ⟨s1, s2, f1, f2, hk, hlen, hg⟩ := good_of a b ga gb hl y z
  obtain ⟨m1, _⟩ := mid_of a b ga gb hl y z
  have ha : a.size ≤ maxLen := by unfold maxLen; omega
  have hb : b.size ≤ maxLen := by unfold maxLen; omega
  refine ⟨⟨((total a b).map chr).toArray⟩, ?_, by rw [str_eta]; exact hg.key, by rw [str_toList ((total a b).map chr)]; exact hg.above, by rw [str_toList ((total a b).map chr)]; exact hg.under⟩
  intro w
  cases a1 : a.toList.isEmpty <;> cases b1 : b.toList.isEmpty
  · have a2 := ga.resolve_left (size_not_empty a1)
    have b2 := gb.resolve_left (size_not_empty b1)
    exact bet13 a b ha hb _ m1 a1 a2 b1 b2 (hl (size_not_empty a1) (size_not_empty b1)) y z w
  · have a2 := ga.resolve_left (size_not_empty a1)
    exact bet9 a b ha hb _ m1 a1 a2 b1 (empty_no b b1) y z w
  · have b2 := gb.resolve_left (size_not_empty b1)
    exact bet5 a b ha hb _ m1 a1 (empty_no a a1) b1 b2 y z w
  · exact bet2 a b ha hb _ m1 a1 (empty_no a a1) b1 (empty_no b b1) y z w
theorem between_full (a b : ByteArray) (ga : a.size = 0 ∨ keyB a.data.toList = true) (gb : b.size = 0 ∨ keyB b.data.toList = true)
    (hl : a.size ≠ 0 → b.size ≠ 0 → Op.bytesLess a.toList b.toList = true) (h : a.size = 64 ∨ b.size = 64) (w : World) :
    Calls Try.prog 9 #[.string a, .string b] w fun e w' => e = .returned (.tuple #[.string ⟨#[]⟩, .int .i64 133]) ∧ Below w.heap.size w w' := by
  have ha : a.size ≤ maxLen := by
    rcases ga with h | h
    · unfold maxLen; omega
    · have := keyB_size h; unfold maxLen; omega
  have hb : b.size ≤ maxLen := by
    rcases gb with h | h
    · unfold maxLen; omega
    · have := keyB_size h; unfold maxLen; omega
  by_cases y : a.size = 64
  · cases a1 : a.toList.isEmpty <;> cases b1 : b.toList.isEmpty
    · have a2 := ga.resolve_left (size_not_empty a1)
      have b2 := gb.resolve_left (size_not_empty b1)
      exact bet11 a b ha hb a1 a2 b1 b2 (hl (size_not_empty a1) (size_not_empty b1)) y w
    · have a2 := ga.resolve_left (size_not_empty a1)
      exact bet7 a b ha hb a1 a2 b1 (empty_no b b1) y w
    · have b2 := gb.resolve_left (size_not_empty b1)
      exact bet3 a b ha hb a1 (empty_no a a1) b1 b2 y w
    · exact bet0 a b ha hb a1 (empty_no a a1) b1 (empty_no b b1) y w
  · have z := h.resolve_left y
    cases a1 : a.toList.isEmpty <;> cases b1 : b.toList.isEmpty
    · have a2 := ga.resolve_left (size_not_empty a1)
      have b2 := gb.resolve_left (size_not_empty b1)
      exact bet12 a b ha hb a1 a2 b1 b2 (hl (size_not_empty a1) (size_not_empty b1)) y z w
    · have a2 := ga.resolve_left (size_not_empty a1)
      exact bet8 a b ha hb a1 a2 b1 (empty_no b b1) y z w
    · have b2 := gb.resolve_left (size_not_empty b1)
      exact bet4 a b ha hb a1 (empty_no a a1) b1 b2 y z w
    · exact bet1 a b ha hb a1 (empty_no a a1) b1 (empty_no b b1) y z w

def at' (L : List ByteArray) (j : Nat) : ByteArray := L.getD j ⟨#[]⟩
/-- a list of keys that rises -/
def Asc (L : List ByteArray) : Prop := (∀ j, j + 1 < L.length → Op.bytesLess (at' L j).toList (at' L (j + 1)).toList = true) ∧ ∀ x ∈ L, keyB x.data.toList = true
theorem Asc.nil : Asc [] := ⟨fun j h => by simp at h, fun x h => by cases h⟩
theorem Asc.at {L : List ByteArray} (h : Asc L) {j : Nat} (hj : j < L.length) : keyB (at' L j).data.toList = true := by
  refine h.2 _ ?_
  unfold at'
  rw [List.getD_eq_getElem?_getD, List.getElem?_eq_getElem hj]
  exact List.getElem_mem hj
def ins (L : List ByteArray) (n : Nat) (k : ByteArray) : List ByteArray := L.take n ++ [k] ++ L.drop n
theorem ins_length {L : List ByteArray} {n : Nat} (k : ByteArray) (hn : n ≤ L.length) : (ins L n k).length = L.length + 1 := by
  simp [ins]; omega
theorem at_ins {L : List ByteArray} {n : Nat} (k : ByteArray) (hn : n ≤ L.length) (j : Nat) : at' (ins L n k) j = if j < n then at' L j else if j = n then k else at' L (j - 1) := by
  unfold at' ins
  simp only [List.getD_eq_getElem?_getD, List.append_assoc]
  by_cases h : j < n
  · rw [if_pos h, List.getElem?_append_left (by simp; omega), List.getElem?_take_of_lt h]
  · rw [if_neg h, List.getElem?_append_right (by simp; omega)]
    have e : (L.take n).length = n := by simp; omega
    rw [e]
    by_cases h2 : j = n
    · rw [if_pos h2]; subst h2; simp
    · rw [if_neg h2, List.singleton_append, List.getElem?_cons, if_neg (by omega), List.getElem?_drop]
      congr 2
      omega
theorem Asc.ins {L : List ByteArray} (h : Asc L) {n : Nat} (hn : n ≤ L.length) {k : ByteArray} (hk : keyB k.data.toList = true)
    (h1 : 0 < n → Op.bytesLess (at' L (n - 1)).toList k.toList = true) (h2 : n < L.length → Op.bytesLess k.toList (at' L n).toList = true) : Asc (ins L n k) := by
  refine ⟨fun j hj => ?_, fun x hx => ?_⟩
  · rw [ins_length k hn] at hj
    rw [at_ins k hn, at_ins k hn]
    by_cases c1 : j + 1 < n
    · rw [if_pos (by omega), if_pos c1]
      exact h.1 j (by omega)
    · by_cases c2 : j + 1 = n
      · rw [if_pos (by omega), if_neg c1, if_pos c2]
        have := h1 (by omega)
        rwa [← c2] at this
      · by_cases c3 : j = n
        · rw [if_neg (by omega), if_pos c3, if_neg c1, if_neg c2]
          have := h2 (by omega)
          rw [c3]; exact this
        · rw [if_neg (by omega), if_neg c3, if_neg c1, if_neg c2]
          have := h.1 (j - 1) (by omega)
          rwa [show j - 1 + 1 = j by omega] at this
  · unfold Go.Proofs.Ytdhhjojfakkjoaa.ins at hx
    simp only [List.append_assoc, List.mem_append, List.mem_singleton] at hx
    rcases hx with hx | rfl | hx
    · exact h.2 x (List.mem_of_mem_take hx)
    · exact hk
    · exact h.2 x (List.mem_of_mem_drop hx)

/-! ### the slices -/
theorem own_later {w w' : World} {base : Nat} {e : TypeId} {size : Nat} {v : Value} {n : Nat} {xs : List Value} (h : w.ownsRow base e size v n xs) (hb : Below w.heap.size w w') : w'.ownsRow base e size v n xs := by
  refine ⟨h.1, ?_⟩
  rcases h.2 with hn | ⟨g, cap, cur, rfl, hbb, hgg, rest⟩
  · exact .inl hn
  · exact .inr ⟨g, cap, cur, rfl, hbb, (hb.block g (heap_lt hgg)).trans hgg, rest⟩
theorem own_base {w : World} {base b2 : Nat} {e : TypeId} {size : Nat} {v : Value} {n : Nat} {xs : List Value} (h : w.ownsRow base e size v n xs) (hb : b2 ≤ base) : w.ownsRow b2 e size v n xs := by
  refine ⟨h.1, ?_⟩
  rcases h.2 with hn | ⟨g, cap, cur, rfl, hbb, rest⟩
  · exact .inl hn
  · exact .inr ⟨g, cap, cur, rfl, by omega, rest⟩
theorem Tr.grown {W0 w w' : World} {row : Option Nat} (h : Tr W0 w []) (hg : w.grownBy w' row) (hr : ∀ k, row = some k → W0.heap.size ≤ k) : Tr W0 w' [] :=
  ⟨h.1.grown hg h.1.size hr, fun _ h => by cases h⟩
theorem append_any {P : Program} {w : World} {ops : Array Oper} {rest : List Oper} {o : Oper} {a : Act} {Q : Exit → Act → World → Prop} (hgd : o.guard = none) (s x : Operand) (t : TypeId)
    (ho : o.op = .call { callee := .builtin .append, args := #[s, x], argTypes := #[t, t] })
    (base : Nat) (e : TypeId) (i : TypeInfo) (z : Value) (size bytes : Nat) (ht : P.underlying t = some (.slice e)) (hi : P.info? e = some i) (hz : i.zero = some z)
    (hsize : i.size = size) (hby : i.bytes = bytes) (hzs : z.cells.size = size) (hsz : 0 < size)
    (v : Value) (n : Nat) (xs : List Value) (hs : a.eval s = v) (hown : w.ownsRow base e size v n xs)
    (ao : Option Addr) (m c : Nat) (news : List Value) (hx : a.eval x = .slice ao m c) (hl : news.length = m * size) (hnone : ao = none → m = 0 ∧ c = 0)
    (hnews : ∀ ad, ao = some ad → ∀ j u, news[j]? = some u → w.cell? (ad.add j) = some u) (h1 : ∀ u ∈ news, u.oneCell' = true)
    (h63 : n + m ≤ maxLen) (hbytes : (n + m) * bytes ≤ 140737488355328) (hbase : base ≤ w.heap.size)
    (h : ∀ v' w', w'.ownsRow base e size v' (n + m) (xs ++ news) → w.grownBy w' v.ownBlock → wpList P ops Q rest (a.put o.dst v') w') : wpList P ops Q (o :: rest) a w := by
  cases ao with
  | some ad => exact wpList_append_own w hgd s x t ho base e i z size bytes ht hi hz hsize hby hzs hsz v n xs hs hown ad m c news hx hl (hnews ad rfl) h1 h63 hbytes hbase fun v' w' h2 h3 _ => h v' w' h2 h3
  | none =>
    obtain ⟨rfl, rfl⟩ := hnone rfl
    have hn : news = [] := List.eq_nil_of_length_eq_zero (by simpa using hl)
    subst hn
    exact wpList_append_own_none hgd s x t ho base e i size ht hi v n xs hs hown hx (h v w (by simpa using hown) (World.grownBy.refl _ _))
def strs (L : List ByteArray) : List Value := L.map Value.string
theorem strs_one (L : List ByteArray) : ∀ u ∈ strs L, u.oneCell' = true := by
  intro u hu
  obtain ⟨_, _, rfl⟩ := List.mem_map.1 hu
  rfl
/-- the cells of a part of an own row, from i on -/
theorem cells_part {w : World} {base g n cap : Nat} {e : TypeId} {L P : List ByteArray} (h : w.ownsRow base e 1 (.slice (some ⟨g, 0, none⟩) n cap) n (strs L)) (i : Nat) (hP : ∀ j x, P[j]? = some x → L[i + j]? = some x)
    {ao : Option Addr} (hao : P ≠ [] → ao = some ⟨g, i, none⟩) : ∀ ad, ao = some ad → ∀ j u, (strs P)[j]? = some u → w.cell? (ad.add j) = some u := by
  intro ad had j u hu
  unfold strs at hu
  rw [List.getElem?_map, Option.map_eq_some_iff] at hu
  obtain ⟨x, hx, rfl⟩ := hu
  have hne : P ≠ [] := by rintro rfl; simp at hx
  rw [hao hne] at had
  obtain rfl := Option.some.inj had
  rw [Addr.add_lit]
  have hl := hP j x hx
  have hlt : i + j < L.length := (List.getElem?_eq_some_iff.1 hl).1
  have hn : L.length = n := by simpa [strs] using h.1
  rw [h.cellAt (i + j) (by omega)]
  unfold strs
  rw [List.getElem?_map, hl]; rfl
theorem cell_own {w : World} {base g n cap : Nat} {e : TypeId} {L : List ByteArray} (h : w.ownsRow base e 1 (.slice (some ⟨g, 0, none⟩) n cap) n (strs L)) (j : Nat) (hj : j < L.length) : w.cell? ⟨g, j, none⟩ = some (.string (at' L j)) := by
  have hn : L.length = n := by simpa [strs] using h.1
  rw [h.cellAt j (by omega)]
  unfold strs at'
  rw [List.getElem?_map, List.getElem?_eq_getElem hj, List.getD_eq_getElem?_getD, List.getElem?_eq_getElem hj]; rfl
theorem mod_neg {z : Int} (hz : z < 0) (m : Nat) : ∃ n : Nat, n ≤ m ∧ (z + 1).tmod ((m : Int) + 1) = -(n : Int) := by
  have e : (z + 1).tmod ((m : Int) + 1) = -((-(z + 1)).tmod ((m : Int) + 1)) := by rw [Int.neg_tmod]; omega
  have h1 := Int.tmod_nonneg ((m : Int) + 1) (show 0 ≤ -(z + 1) by omega)
  have h2 := Int.tmod_lt_of_pos (-(z + 1)) (show 0 < (m : Int) + 1 by omega)
  exact ⟨((-(z + 1)).tmod ((m : Int) + 1)).toNat, by omega, by rw [e]; omega⟩
theorem mod_pos {z : Int} (m : Nat) : ∃ n : Nat, n ≤ m ∧ z % ((m : Int) + 1) = (n : Int) := by
  have h1 := Int.emod_nonneg z (show (m : Int) + 1 ≠ 0 by omega)
  have h2 := Int.emod_lt_of_pos z (show 0 < (m : Int) + 1 by omega)
  exact ⟨(z % ((m : Int) + 1)).toNat, by omega, by omega⟩
theorem less_self : ∀ x : List UInt8, Op.bytesLess x x = false
  | [] => rfl
  | a :: x => by
    have := less_self x
    simp [Op.bytesLess, this]
theorem less_asym : ∀ x y : List UInt8, Op.bytesLess x y = true → Op.bytesLess y x = false
  | [], [], h => by simp [Op.bytesLess] at h
  | [], _ :: _, _ => by simp [Op.bytesLess]
  | _ :: _, [], h => by simp [Op.bytesLess] at h
  | a :: x, b :: y, h => by
    simp only [Op.bytesLess, Bool.or_eq_true, decide_eq_true_eq, Bool.and_eq_true, beq_iff_eq] at h
    rcases h with h | ⟨rfl, h⟩
    · have h1 : ¬ b < a := fun k => by
        have := UInt8.lt_iff_toNat_lt.1 h
        have := UInt8.lt_iff_toNat_lt.1 k
        omega
      have h2 : (b == a) = false := by
        rw [beq_eq_false_iff_ne]; rintro rfl
        have := UInt8.lt_iff_toNat_lt.1 h
        omega
      simp [Op.bytesLess, h1, h2]
    · have h1 : ¬ a < a := fun k => by
        have := UInt8.lt_iff_toNat_lt.1 k
        omega
      simp [Op.bytesLess, less_asym x y h, h1]
theorem less_not {a k : ByteArray} (h : Op.bytesLess a.toList k.toList = true) : Op.bytesLess k.toList a.toList = false ∧ (k.toList == a.toList) = false ∧ ¬ k.toList = a.toList := by
  have hne : ¬ k.toList = a.toList := fun e => by rw [e, less_self] at h; cases h
  exact ⟨less_asym _ _ h, by simpa using hne, hne⟩
theorem nil_toList : (⟨#[]⟩ : ByteArray).toList = [] := by rw [ByteArray.toList_eq]
theorem own_cap {w : World} {base g n cap : Nat} {e : TypeId} {size : Nat} {xs : List Value} (h : w.ownsRow base e size (.slice (some ⟨g, 0, none⟩) n cap) n xs) : n ≤ cap ∧ cap ≤ maxLen := by
  rcases h.2 with ⟨h0, _⟩ | ⟨g', cap', cur, he, _, _, h1, h2, _⟩
  · cases h0
  · obtain ⟨rfl, rfl⟩ : g = g' ∧ cap = cap' := by simpa using he
    exact ⟨h1, h2⟩
theorem own_ne {w wa : World} {base g n cap n1 : Nat} {e : TypeId} {size : Nat} {xs ys : List Value} {v1 : Value} (h : w.ownsRow base e size (.slice (some ⟨g, 0, none⟩) n cap) n xs) (h1 : wa.ownsRow w.heap.size e size v1 n1 ys) :
    (Value.slice (some ⟨g, 0, none⟩) n cap).ownBlock = none ∨ (Value.slice (some ⟨g, 0, none⟩) n cap).ownBlock ≠ v1.ownBlock := by
  refine Or.inr fun e => ?_
  have h2 := (h.lt g rfl).2
  have h3 := (h1.lt g (by rw [← e]; rfl)).1
  omega
theorem cells_news (w : World) (k : ByteArray) (t : TypeId) : ∀ ad, (some (⟨w.heap.size, 0, none⟩ : Addr)) = some ad → ∀ j u, (strs [k])[j]? = some u → (w.alloc (.cells #[.string k] t)).cell? (ad.add j) = some u := by
  intro ad h j u hu
  cases h
  exact cells_new _ _ _ j u hu
theorem take_get {L : List ByteArray} {n : Nat} : ∀ j x, (L.take n)[j]? = some x → L[0 + j]? = some x := by
  intro j x h
  rw [List.getElem?_take] at h
  split at h
  · rw [Nat.zero_add]; exact h
  · cases h
theorem drop_get {L : List ByteArray} {n : Nat} : ∀ j x, (L.drop n)[j]? = some x → L[n + j]? = some x := by
  intro j x h
  rwa [List.getElem?_drop] at h
theorem strs_ins (L : List ByteArray) (n : Nat) (k : ByteArray) : [] ++ strs (L.take n) ++ strs [k] ++ strs (L.drop n) = strs (ins L n k) := by simp [strs, ins]
theorem own_ins {w : World} {base b2 : Nat} {e : TypeId} {v : Value} {m : Nat} {L : List ByteArray} {n : Nat} {k : ByteArray} (h : w.ownsRow base e 1 v m ([] ++ strs (L.take n) ++ strs [k] ++ strs (L.drop n))) (hb : b2 ≤ base) : w.ownsRow b2 e 1 v (ins L n k).length (strs (ins L n k)) := by
  have h' := own_base h hb
  rw [strs_ins] at h'
  have : (ins L n k).length = m := by simpa [strs] using h'.1
  rw [this]; exact h'
end Go.Proofs.Ytdhhjojfakkjoaa
