/- THE REFERENCE'S ROPE: Insert. -/
import Derived.Test.YtfmmgijffneodaaRopeRef2
namespace Go.Proofs.Ytfmmgijffneodaa
open Go.RowKit Go.Joins
set_option linter.unusedSimpArgs false
set_option linter.unusedVariables false

/-- the cells of a part of the items, from i on -/
theorem item_part {w : World} {base B cap n : Nat} {L P : List Int} {hid : Int → Bool} (h : w.ownsRow base 61 2 (.slice (some ⟨B, 0, none⟩) n cap) n (items L hid)) (i : Nat) (hP : ∀ (j : Nat) x, P[j]? = some x → L[i + j]? = some x)
    {ao : Option Addr} (hao : P ≠ [] → ao = some ⟨B, i * 2, none⟩) : ∀ ad, ao = some ad → ∀ (j : Nat) u, (items P hid)[j]? = some u → w.cell? (ad.add j) = some u := by
  intro ad had j u hu
  have hjl : j < P.length * 2 := by rw [← items_length P hid]; exact (List.getElem?_eq_some_iff.1 hu).1
  have hne : P ≠ [] := by rintro rfl; simp at hjl
  rw [hao hne] at had
  obtain rfl := Option.some.inj had
  rw [Addr.add_lit]
  have hq : j / 2 < P.length := by omega
  obtain ⟨a1, a2⟩ := items_at P hid (j / 2) hq
  have hLx := hP (j / 2) _ (List.getElem?_eq_getElem hq)
  obtain ⟨hlt, hl⟩ := List.getElem?_eq_some_iff.1 hLx
  obtain ⟨c1, c2⟩ := items_at L hid (i + j / 2) hlt
  have hn : L.length = n := by have := h.1; rw [items_length] at this; omega
  rw [h.cellAt (i * 2 + j) (by omega)]
  by_cases hpar : j % 2 = 0
  · rw [show j / 2 * 2 = j by omega] at a1
    rw [show i * 2 + j = (i + j / 2) * 2 by omega, c1, hl, ← hu]
    exact a1.symm
  · rw [show j / 2 * 2 + 1 = j by omega] at a2
    rw [show i * 2 + j = (i + j / 2) * 2 + 1 by omega, c2, hl, ← hu]
    exact a2.symm
theorem item_cell (w : World) (k : Int) (s : Bool) (t : TypeId) (hid : Int → Bool) : ∀ ad, (some (⟨w.heap.size, 0, none⟩ : Addr)) = some ad → ∀ (j : Nat) u, (items [k] (setH hid k (!s)))[j]? = some u → (w.alloc (.cells #[.int .i64 k, .bool s] t)).cell? (ad.add j) = some u := by
  intro ad h j u hu
  cases h
  have e : items [k] (setH hid k (!s)) = [.int .i64 k, .bool s] := by simp [items, setH]
  rw [e] at hu
  rw [Addr.add_lit, blk_cell (blk_new _ _), Nat.zero_add, ← Array.getElem?_toList]
  exact hu
def RInsP (m : Nat) (v : Value) (L : List Int) (hid : Int → Bool) (a k : Int) (s : Bool) (base : Nat) (w : World) (e : Ending) (w' : World) : Prop :=
  e = .returned (.int .i64 (insE L a k)) ∧ ∃ v' base', RefAt w' m base' v' (insL L a k) (insH L hid a k s) ∧ Ch (fun x => x = m) w w' ∧ ((v' = v ∧ base' = base) ∨ base' = w.heap.size)
theorem rins_no (w : World) (m base : Nat) (v : Value) (L : List Int) (hid : Int → Bool) (h : RefAt w m base v L hid) (hL : L.length < 4294967296) (a k : Int) (s : Bool) (hno : k ∈ L ∨ outL L a) :
    Calls Try.prog 17 #[ptr m, .int .i64 a, .int .i64 k, .bool s] w (RInsP m v L hid a k s base w) := by
  have H := rfind_any w m base v L hid h hL k
  have HR := Lib.hid h
  obtain ⟨ao, cap, hv, hc⟩ := item_cells h.row
  have e0 := blk_cell h.top 0
  have f0 := blk_free h.top 0
  have hfin : RInsP m v L hid a k s base w (.returned (.int .i64 (insE L a k))) w := by
    unfold RInsP insL insH
    rw [if_pos hno, if_pos hno]
    exact ⟨rfl, v, base, h, Ch.refl _ _, .inl ⟨rfl, rfl⟩⟩
  rw [hv] at e0
  by_cases hk : k ∈ L
  · rw [findV_in hk] at H
    have H := Lib.hid H
    have e1 : insE L a k = 111 := by unfold insE; rw [if_pos hk]
    rw [e1] at hfin
    have HF := Lib.hid hfin
    clear h hc hv hno hk e1 hfin
    go_enter Try.func17, Try.ntmps17
    go_wp2_with (with_reducible refine H.out.mono ?_; rintro e w' ⟨rfl, rfl⟩)
    go_ret
    exact HF.out
  · have ho := hno.resolve_left hk
    rw [findV_out hk] at H
    have H := Lib.hid H
    have e1 : insE L a k = 112 := by unfold insE; rw [if_neg hk, if_pos ho]
    rw [e1] at hfin
    have HF := Lib.hid hfin
    unfold outL at ho
    have hcase : a < 0 ∨ (¬ a < 0 ∧ (L.length : Int) < a) := by omega
    clear h hc hv hno hk e1 hfin ho
    rcases hcase with ho | ⟨ho, ho2⟩
    all_goals
      go_enter Try.func17, Try.ntmps17
      go_wp2_with (with_reducible refine H.out.mono ?_; rintro e w' ⟨rfl, rfl⟩)
      go_ret
      exact HF.out
theorem own_form {w : World} {base : Nat} {e : TypeId} {size : Nat} {v : Value} {n : Nat} {xs : List Value} (h : w.ownsRow base e size v n xs) : ∃ ao cap, v = .slice ao n cap := by
  rcases h.2 with ⟨rfl, rfl⟩ | ⟨B, cap, cur, he, _⟩
  · exact ⟨none, 0, rfl⟩
  · exact ⟨_, cap, he⟩
set_option maxHeartbeats 4000000 in
theorem rins_mid (w : World) (m base B cap : Nat) (L : List Int) (hid : Int → Bool) (h : RefAt w m base (.slice (some ⟨B, 0, none⟩) L.length cap) L hid) (hL : L.length < 4294967295) (hc1 : L.length ≤ cap) (hc2 : cap ≤ maxLen) (n : Nat) (hn : n < L.length) (k : Int) (s : Bool) (hk : k ∉ L) :
    Calls Try.prog 17 #[ptr m, .int .i64 n, .int .i64 k, .bool s] w fun e w' => e = .returned (.int .i64 0) ∧ ∃ v3 wz, w' = wz.setCell ⟨m, 0, none⟩ v3 ∧ Below w.heap.size w wz ∧ wz.ownsRow w.heap.size 61 2 v3 (0 + n + 1 + (L.length - n)) ([] ++ items (L.take n) hid ++ items [k] (setH hid k (!s)) ++ items (L.drop n) hid) := by
  obtain ⟨i0, hi, hz0, hz1, hz2⟩ := info_parts Slot.infoItem
  have H := rfind_any w m base _ L hid h (by omega) k
  rw [findV_out hk] at H
  have H := Lib.hid H
  have HR := Lib.hid h
  have HRow := Lib.hid h.row
  have e0 := blk_cell h.top 0
  have f0 := blk_free h.top 0
  unfold maxLen at hc2
  clear h hk
  go_enter Try.func17, Try.ntmps17
  go_wp2_with (first | (with_reducible refine H.out.mono ?_; rintro e w' ⟨rfl, rfl⟩) | (at_builtin; refine append_any rfl (.tmp 25) (.tmp 31) 40 rfl w.heap.size 61 i0 (.agg #[.int .i64 0, .bool false]) 2 16 Try.underlying40 hi hz0 hz1 hz2 rfl (by decide) (.slice none 0 0) _ _ rfl (World.ownsRow_nil _ _ _ _) _ _ _ (items (L.take n) hid) rfl (by rw [items_length]; first | omega | (simp; done) | (simp; omega)) (by intro h; cases h) (item_part HRow.out 0 take_get (fun _ => rfl)) (items_one _ _) (by unfold maxLen; omega) (by omega) (Nat.le_refl _) ?_; intro v1 wx own1 grow1; have b1 := (Below.refl w.heap.size w).grown grow1 (Nat.le_refl _) (fun x hx => by cases hx)) | (at_builtin; refine append_any rfl (.tmp 33) (.tmp 37) 40 rfl w.heap.size 61 i0 (.agg #[.int .i64 0, .bool false]) 2 16 Try.underlying40 hi hz0 hz1 hz2 rfl (by decide) v1 _ _ rfl (own1.alloc _) (some ⟨wx.heap.size, 0, none⟩) 1 1 (items [k] (setH hid k (!s))) rfl rfl (by intro h; cases h) (item_cell _ _ _ _ _) (items_one _ _) (by unfold maxLen; omega) (by omega) (below_alloc b1 _).size ?_; intro v2 wy own2 grow2; have b2 := (below_alloc b1 _).grown grow2 (below_alloc b1 _).size (fun x hx => (own1.lt x hx).1); have hmy := (b2.block m (heap_lt HR.out.top)).trans HR.out.top; have e0y := blk_cell hmy 0; have f0y := blk_free hmy 0) | (at_builtin; refine append_any rfl (.tmp 39) (.tmp 45) 40 rfl w.heap.size 61 i0 (.agg #[.int .i64 0, .bool false]) 2 16 Try.underlying40 hi hz0 hz1 hz2 rfl (by decide) v2 _ _ rfl own2 _ _ _ (items (L.drop n) hid) rfl (by rw [items_length]; first | omega | (simp; done) | (simp; omega)) (by intro h; cases h) (item_part (own_ch HRow.out (Ch.of_below (F := fun _ => False) b2) (fun _ _ e => e)) n drop_get (fun _ => rfl)) (items_one _ _) (by unfold maxLen; omega) (by omega) b2.size ?_; intro v3 wz own3 grow3; have b3 := b2.grown grow3 b2.size (fun x hx => (own2.lt x hx).1); have hmz := (b3.block m (heap_lt HR.out.top)).trans HR.out.top; have e0z := blk_cell hmz 0; have f0z := blk_free hmz 0; obtain ⟨a3, c3, rfl⟩ := own_form own3))
  go_ret
  exact ⟨rfl, _, wz, rfl, b3, by simpa using own3⟩
set_option maxHeartbeats 4000000 in
theorem rins_end (w : World) (m base B cap : Nat) (L : List Int) (hid : Int → Bool) (h : RefAt w m base (.slice (some ⟨B, 0, none⟩) L.length cap) L hid) (hL : L.length < 4294967295) (hc1 : L.length ≤ cap) (hc2 : cap ≤ maxLen) (k : Int) (s : Bool) (hk : k ∉ L) :
    Calls Try.prog 17 #[ptr m, .int .i64 L.length, .int .i64 k, .bool s] w fun e w' => e = .returned (.int .i64 0) ∧ ∃ v3 wz, w' = wz.setCell ⟨m, 0, none⟩ v3 ∧ Below w.heap.size w wz ∧ wz.ownsRow w.heap.size 61 2 v3 (0 + L.length + 1 + 0) ([] ++ items (L.take L.length) hid ++ items [k] (setH hid k (!s)) ++ items (L.drop L.length) hid) := by
  obtain ⟨i0, hi, hz0, hz1, hz2⟩ := info_parts Slot.infoItem
  have H := rfind_any w m base _ L hid h (by omega) k
  rw [findV_out hk] at H
  have H := Lib.hid H
  have HR := Lib.hid h
  have HRow := Lib.hid h.row
  have e0 := blk_cell h.top 0
  have f0 := blk_free h.top 0
  unfold maxLen at hc2
  clear h hk
  go_enter Try.func17, Try.ntmps17
  go_wp2_with (first | (with_reducible refine H.out.mono ?_; rintro e w' ⟨rfl, rfl⟩) | (at_builtin; refine append_any rfl (.tmp 25) (.tmp 31) 40 rfl w.heap.size 61 i0 (.agg #[.int .i64 0, .bool false]) 2 16 Try.underlying40 hi hz0 hz1 hz2 rfl (by decide) (.slice none 0 0) _ _ rfl (World.ownsRow_nil _ _ _ _) _ _ _ (items (L.take L.length) hid) rfl (by rw [items_length]; first | omega | (simp; done) | (simp; omega)) (by intro h; cases h) (item_part HRow.out 0 take_get (fun _ => rfl)) (items_one _ _) (by unfold maxLen; omega) (by omega) (Nat.le_refl _) ?_; intro v1 wx own1 grow1; have b1 := (Below.refl w.heap.size w).grown grow1 (Nat.le_refl _) (fun x hx => by cases hx)) | (at_builtin; refine append_any rfl (.tmp 33) (.tmp 37) 40 rfl w.heap.size 61 i0 (.agg #[.int .i64 0, .bool false]) 2 16 Try.underlying40 hi hz0 hz1 hz2 rfl (by decide) v1 _ _ rfl (own1.alloc _) (some ⟨wx.heap.size, 0, none⟩) 1 1 (items [k] (setH hid k (!s))) rfl rfl (by intro h; cases h) (item_cell _ _ _ _ _) (items_one _ _) (by unfold maxLen; omega) (by omega) (below_alloc b1 _).size ?_; intro v2 wy own2 grow2; have b2 := (below_alloc b1 _).grown grow2 (below_alloc b1 _).size (fun x hx => (own1.lt x hx).1); have hmy := (b2.block m (heap_lt HR.out.top)).trans HR.out.top; have e0y := blk_cell hmy 0; have f0y := blk_free hmy 0) | (at_builtin; refine append_any rfl (.tmp 39) (.tmp 45) 40 rfl w.heap.size 61 i0 (.agg #[.int .i64 0, .bool false]) 2 16 Try.underlying40 hi hz0 hz1 hz2 rfl (by decide) v2 _ _ rfl own2 _ _ _ (items (L.drop L.length) hid) rfl (by rw [items_length]; first | omega | (simp; done) | (simp; omega)) (by intro h; first | (cases h; done) | exact ⟨rfl, rfl⟩ | (constructor <;> omega; done) | (split at h <;> first | (cases h; done) | (constructor <;> omega)) | (simp at h; constructor <;> omega)) (item_part (own_ch HRow.out (Ch.of_below (F := fun _ => False) b2) (fun _ _ e => e)) L.length drop_get (fun h => absurd List.drop_length h)) (items_one _ _) (by unfold maxLen; omega) (by omega) b2.size ?_; intro v3 wz own3 grow3; have b3 := b2.grown grow3 b2.size (fun x hx => (own2.lt x hx).1); have hmz := (b3.block m (heap_lt HR.out.top)).trans HR.out.top; have e0z := blk_cell hmz 0; have f0z := blk_free hmz 0; obtain ⟨a3, c3, rfl⟩ := own_form own3))
  all_goals
    go_ret
    exact ⟨rfl, _, wz, rfl, b3, by simpa using own3⟩
set_option maxHeartbeats 4000000 in
theorem rins_nil (w : World) (m base : Nat) (hid : Int → Bool) (h : RefAt w m base (.slice none 0 0) [] hid) (k : Int) (s : Bool) :
    Calls Try.prog 17 #[ptr m, .int .i64 0, .int .i64 k, .bool s] w fun e w' => e = .returned (.int .i64 0) ∧ ∃ v3 wz, w' = wz.setCell ⟨m, 0, none⟩ v3 ∧ Below w.heap.size w wz ∧ wz.ownsRow w.heap.size 61 2 v3 (0 + 0 + 1 + 0) ([] ++ items (([] : List Int).take 0) hid ++ items [k] (setH hid k (!s)) ++ items (([] : List Int).drop 0) hid) := by
  obtain ⟨i0, hi, hz0, hz1, hz2⟩ := info_parts Slot.infoItem
  have H := rfind_any w m base _ [] hid h (by simp) k
  rw [findV_out (by simp)] at H
  have H := Lib.hid H
  have HR := Lib.hid h
  have HRow := Lib.hid h.row
  have e0 := blk_cell h.top 0
  have f0 := blk_free h.top 0
  clear h
  go_enter Try.func17, Try.ntmps17
  go_wp2_with (first | (with_reducible refine H.out.mono ?_; rintro e w' ⟨rfl, rfl⟩) | (at_builtin; refine append_any rfl (.tmp 25) (.tmp 31) 40 rfl w.heap.size 61 i0 (.agg #[.int .i64 0, .bool false]) 2 16 Try.underlying40 hi hz0 hz1 hz2 rfl (by decide) (.slice none 0 0) _ _ rfl (World.ownsRow_nil _ _ _ _) _ _ _ (items (([] : List Int).take 0) hid) rfl (by rw [items_length]; first | omega | (simp; done) | (simp; omega)) (fun _ => ⟨rfl, rfl⟩) (by intro ad h; cases h) (items_one _ _) (by unfold maxLen; omega) (by omega) (Nat.le_refl _) ?_; intro v1 wx own1 grow1; have b1 := (Below.refl w.heap.size w).grown grow1 (Nat.le_refl _) (fun x hx => by cases hx)) | (at_builtin; refine append_any rfl (.tmp 33) (.tmp 37) 40 rfl w.heap.size 61 i0 (.agg #[.int .i64 0, .bool false]) 2 16 Try.underlying40 hi hz0 hz1 hz2 rfl (by decide) v1 _ _ rfl (own1.alloc _) (some ⟨wx.heap.size, 0, none⟩) 1 1 (items [k] (setH hid k (!s))) rfl rfl (by intro h; cases h) (item_cell _ _ _ _ _) (items_one _ _) (by unfold maxLen; omega) (by omega) (below_alloc b1 _).size ?_; intro v2 wy own2 grow2; have b2 := (below_alloc b1 _).grown grow2 (below_alloc b1 _).size (fun x hx => (own1.lt x hx).1); have hmy := (b2.block m (heap_lt HR.out.top)).trans HR.out.top; have e0y := blk_cell hmy 0; have f0y := blk_free hmy 0) | (at_builtin; refine append_any rfl (.tmp 39) (.tmp 45) 40 rfl w.heap.size 61 i0 (.agg #[.int .i64 0, .bool false]) 2 16 Try.underlying40 hi hz0 hz1 hz2 rfl (by decide) v2 _ _ rfl own2 _ _ _ (items (([] : List Int).drop 0) hid) rfl (by rw [items_length]; first | omega | (simp; done) | (simp; omega)) (fun _ => ⟨rfl, rfl⟩) (by intro ad h; cases h) (items_one _ _) (by unfold maxLen; omega) (by omega) b2.size ?_; intro v3 wz own3 grow3; have b3 := b2.grown grow3 b2.size (fun x hx => (own2.lt x hx).1); have hmz := (b3.block m (heap_lt HR.out.top)).trans HR.out.top; have e0z := blk_cell hmz 0; have f0z := blk_free hmz 0; obtain ⟨a3, c3, rfl⟩ := own_form own3))
  go_ret
  exact ⟨rfl, _, wz, rfl, b3, by simpa using own3⟩
theorem rins_fin {w wz : World} {m base N : Nat} {v v3 : Value} {L : List Int} {hid : Int → Bool} {n : Nat} {k : Int} {s : Bool} (h : RefAt w m base v L hid) (hn : n ≤ L.length) (hk : k ∉ L) (hN : N = L.length + 1) (b : Below w.heap.size w wz)
    (ho : wz.ownsRow w.heap.size 61 2 v3 N ([] ++ items (L.take n) hid ++ items [k] (setH hid k (!s)) ++ items (L.drop n) hid)) :
    RInsP m v L hid n k s base w (.returned (.int .i64 0)) (wz.setCell ⟨m, 0, none⟩ v3) := by
  have hno : ¬ (k ∈ L ∨ outL L (n : Int)) := by unfold outL; intro h; rcases h with h | h; exact hk h; omega
  have hE : insE L n k = 0 := by unfold insE; rw [if_neg hk, if_neg (fun h => hno (Or.inr h))]
  have hmw := heap_lt h.top
  have e : [] ++ items (L.take n) hid ++ items [k] (setH hid k (!s)) ++ items (L.drop n) hid = items (L.take n ++ k :: L.drop n) (setH hid k (!s)) := by
    rw [show L.take n ++ k :: L.drop n = L.take n ++ [k] ++ L.drop n by simp, items_append, items_append, items_other (fun hm => hk (List.mem_of_mem_take hm)), items_other (fun hm => hk (List.mem_of_mem_drop hm)), List.nil_append]
  rw [e] at ho
  refine ⟨by rw [hE], v3, w.heap.size, ?_, ?_, .inr rfl⟩
  · unfold insL insH
    rw [if_neg hno, if_neg hno]
    refine ⟨?_, ?_⟩
    · rw [blk_set ((b.block m hmw).trans h.top)]; rfl
    · rw [Int.toNat_natCast, ins_length' hn, ← hN]
      exact own_ch ho ((Ch.refl (fun z => z = m) wz).setCell ⟨m, 0, none⟩ _ (fun _ => rfl)) (fun z hz e => by have := (ho.lt z hz).1; omega)
  · exact ((Ch.of_below (F := fun x => x = m) b)).setCell ⟨m, 0, none⟩ _ (fun _ => rfl)
theorem rins_any (w : World) (m base : Nat) (v : Value) (L : List Int) (hid : Int → Bool) (h : RefAt w m base v L hid) (hL : L.length < 4294967295) (a k : Int) (s : Bool) :
    Calls Try.prog 17 #[ptr m, .int .i64 a, .int .i64 k, .bool s] w (RInsP m v L hid a k s base w) := by
  by_cases hno : k ∈ L ∨ outL L a
  · exact rins_no w m base v L hid h (by omega) a k s hno
  obtain ⟨hk, ho⟩ := not_or.1 hno
  obtain ⟨n, rfl⟩ : ∃ n : Nat, a = n := ⟨a.toNat, by unfold outL at ho; omega⟩
  have hn : n ≤ L.length := by unfold outL at ho; omega
  have hr := h.row.2
  rcases hr with ⟨rfl, h0⟩ | ⟨B, cap, cur, rfl, -, -, h1, h2, -⟩
  · obtain rfl := List.length_eq_zero_iff.1 h0
    obtain rfl : n = 0 := by simpa using hn
    refine (rins_nil w m base hid h k s).mono ?_
    rintro e w' ⟨rfl, v3, wz, rfl, b, o⟩
    exact rins_fin h hn hk (by simp) b o
  · rcases Nat.lt_or_eq_of_le hn with hlt | rfl
    · refine (rins_mid w m base B cap L hid h hL h1 h2 n hlt k s hk).mono ?_
      rintro e w' ⟨rfl, v3, wz, rfl, b, o⟩
      exact rins_fin h hn hk (by omega) b o
    · refine (rins_end w m base B cap L hid h hL h1 h2 k s hk).mono ?_
      rintro e w' ⟨rfl, v3, wz, rfl, b, o⟩
      exact rins_fin h hn hk (by omega) b o
end Go.Proofs.Ytfmmgijffneodaa
