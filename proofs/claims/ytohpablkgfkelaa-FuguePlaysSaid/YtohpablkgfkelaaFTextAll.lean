/- A TEXT IN MEMORY: All; the row of its elements. -/
import Derived.Test.YtohpablkgfkelaaFEnds
namespace Go.Proofs.Ytohpablkgfkelaa
open Go.RowKit Go.Joins
set_option linter.unusedSimpArgs false
set_option linter.unusedVariables false

/-- an element -/
structure El where
  k : St
  c : Int
  g : Bool
deriving DecidableEq
def elC (x : El) : List Value := [.int .i64 x.k.1, .int .i64 x.k.2, .int .i64 x.c, .bool x.g]
def elL (l : List El) : List Value := l.flatMap elC
def Tx.el (S : Tx) (k : St) : El := ⟨k, S.ch k, S.gone k⟩
def Tx.els (S : Tx) : List El := S.L.map S.el
theorem elL_length (l : List El) : (elL l).length = l.length * 4 := by
  induction l with
  | nil => rfl
  | cons k ks ih => unfold elL at *; rw [List.flatMap_cons, List.length_append, ih]; simp [elC]; omega
theorem elL_append (a b : List El) : elL (a ++ b) = elL a ++ elL b := by simp [elL]
theorem elC_one (x : El) : ∀ v ∈ elC x, v.oneCell' = true := by
  intro v hv
  simp [elC] at hv
  rcases hv with rfl | rfl | rfl | rfl <;> rfl
theorem elL_one (l : List El) : ∀ v ∈ elL l, v.oneCell' = true := by
  intro v hv
  obtain ⟨k, _, hv⟩ := List.mem_flatMap.1 hv
  exact elC_one k v hv
theorem own_base {w : World} {base : Nat} {e : TypeId} {size : Nat} {v : Value} {n : Nat} {xs : List Value} (h : w.ownsRow base e size v n xs) : w.ownsRow 0 e size v n xs := by
  refine ⟨h.1, ?_⟩
  rcases h.2 with h | ⟨B, cap, cur, h1, h2, h3, h4⟩
  · exact .inl h
  · exact .inr ⟨B, cap, cur, h1, Nat.zero_le _, h3, h4⟩
theorem own_le {w : World} {base base' : Nat} {e : TypeId} {size : Nat} {v : Value} {n : Nat} {xs : List Value} (h : w.ownsRow base e size v n xs) (hb : base' ≤ base) : w.ownsRow base' e size v n xs := by
  refine ⟨h.1, ?_⟩
  rcases h.2 with h | ⟨B, cap, cur, h1, h2, h3, h4⟩
  · exact .inl h
  · exact .inr ⟨B, cap, cur, h1, Nat.le_trans hb h2, h3, h4⟩
def RowEl (w : World) (base : Nat) (v : Value) (l : List El) : Prop := w.ownsRow base 44 4 v l.length (elL l)
def AllT (S : Tx) (w : World) (e : Ending) (w' : World) : Prop := ∃ v, e = .returned v ∧ RowEl w' w.heap.size v S.els ∧ Below w.heap.size w w'
theorem infoEl : (Try.prog.info? 44).map (fun i => (i.zero, i.size, i.bytes)) = some (some (.agg #[.int .i64 0, .int .i64 0, .int .i64 0, .bool false]), 4, 32) := by kernel_rfl
theorem els_take {S : Tx} {k : Nat} {x : St} (h : S.L[k]? = some x) : (S.L.take (k + 1)).map S.el = (S.L.take k).map S.el ++ [S.el x] := by
  obtain ⟨hk, rfl⟩ := List.getElem?_eq_some_iff.1 h
  rw [List.take_succ_eq_append_getElem hk, List.map_append]
  rfl
set_option maxHeartbeats 4000000 in
set_option maxRecDepth 20000 in
theorem all_text (w : World) (t : Nat) (S : Tx) (F : Nat → Prop) (h : Text w t S F) : Calls Try.prog 16 #[ptr t] w (AllT S w) := by
  obtain ⟨i0, hi, hz0, hz1, hz2⟩ := info_parts infoEl
  have hbd := h.bound
  have H0 := Lib.hid h
  obtain ⟨kb, cb, gb, r, sl, F0, hT, -⟩ := h
  have e1 := blk_cell hT.top 3
  have f1 := blk_free hT.top 3
  have HA := Lib.hid (all_any w r S.L S.gone F0 hT.rope)
  clear hT
  go_enter Try.func16, Try.ntmps16
  go_wp2_with fail
  with_reducible refine HA.out.mono ?_
  rintro e w1 ⟨v, rfl, hown, hb⟩
  obtain ⟨⟨ao, cap, rfl, hcells⟩, hmax⟩ := own_form (own_base hown)
  have HC := Lib.hid hcells
  have HB := Lib.hid hb
  clear hown hcells hb HA e1 f1
  go_wp2
  go_loopw [3, 14] (fun v i wr => ∃ k : Nat, k ≤ S.L.length ∧ i = .int .i64 k ∧ RowEl wr w1.heap.size v ((S.L.take k).map S.el) ∧ Below w1.heap.size w1 wr) (fun _ i _ => S.L.length - (intOf i).toNat)
  case atStart => exact ⟨0, Nat.zero_le _, rfl, World.ownsRow_nil _ _ _ _, Below.refl _ _⟩
  case round =>
    obtain ⟨k, hk, rfl, hown, hbel⟩ := hrel
    by_cases hlt : k < S.L.length
    · obtain ⟨x, hx⟩ : ∃ x, S.L[k]? = some x := ⟨_, List.getElem?_eq_getElem hlt⟩
      obtain ⟨A, rfl, i0', i1'⟩ := HC.out k x hx
      have c0 : wr.cell? ⟨A, k * 2, none⟩ = some (.int .i64 x.1) := (hbel.cell (World.block_lt_of_cell? _ _ i0')).trans i0'
      have c1 : wr.cell? ⟨A, k * 2 + 1, none⟩ = some (.int .i64 x.2) := (hbel.cell (World.block_lt_of_cell? _ _ i1')).trans i1'
      have b0 : (0 : Int) ≤ (k : Int) := by omega
      have b1 : (k : Int) < (S.L.length : Int) := by omega
      have htl : (S.L.take k).length = k := by simp; omega
      have HTL := Lib.hid htl
      have HM := Lib.hid (List.mem_of_getElem? hx)
      have HE := Lib.hid (els_take hx)
      have HO := Lib.hid hown
      have HBE := Lib.hid hbel
      clear i0' i1' hx hown hbel htl
      go_upto_region 7 with fail
      refine wp_let (KB wr x wr.heap.size) (KB.new wr x) (fun y hy => ?_)
      have HY := Lib.hid hy
      have k0 := hy.c0
      have k1 := hy.c1
      clear hy c0 c1
      have HEL := Lib.hid (element_any y t S F (H0.out.later (HB.out.trans ((HBE.out.trans (HY.out.b.mono HBE.out.size)).mono HB.out.size))) x HM.out)
      go_wp2_with fail
      with_reducible refine HEL.out.mono ?_
      rintro e y2 ⟨rfl, hb2⟩
      have HB2 := Lib.hid hb2
      clear hb2 HEL k0 k1
      have hro := own_ch HO.out (Ch.of_below (F := fun _ => False) (HY.out.b.trans (HB2.out.mono HY.out.b.size))) (fun _ _ h => h)
      have HRO := Lib.hid hro
      clear hro
      have HY2 := Lib.hid (HBE.out.trans ((HY.out.b.trans (HB2.out.mono HY.out.b.size)).mono HBE.out.size))
      clear HY HB2 HBE HO
      have hln : ((S.L.take k).map S.el).length + 1 ≤ S.L.length := by simp; omega
      have hro2 := own_ch HRO.out (Ch.of_below (F := fun _ => False) ((Below.refl _ _).alloc (Nat.le_refl _) (.cells #[.int .i64 x.1, .int .i64 x.2, .int .i64 (S.ch x), .bool (S.gone x)] 44))) (fun _ _ h => h)
      have HRO2 := Lib.hid hro2
      have HLN := Lib.hid hln
      clear hro2 hln
      go_wp2_with (at_builtin; refine wpList_append_own _ rfl (.tmp 18) (.tmp 22) 38 rfl w1.heap.size 44 i0 (.agg #[.int .i64 0, .int .i64 0, .int .i64 0, .bool false]) 4 32 Try.underlying38 hi hz0 hz1 hz2 rfl (by decide) u3 _ _ rfl HRO2.out ⟨y2.heap.size, 0, none⟩ 1 1 (elC (S.el x)) rfl rfl (fun j u hj => by
          rw [Addr.add_lit, Nat.zero_add, blk_cell (blk_new _ _), ← Array.getElem?_toList]
          exact hj) (elC_one _) (by have := HLN.out; unfold maxLen; omega) (by have := HLN.out; omega) (by rw [World.size_alloc]; exact Nat.le_succ_of_le HY2.out.size) ?_; intro v1 w2 hown1 hgrow1 _)
      go_roundw
      case rel => exact ⟨k + 1, by omega, by go_num, by
        have := hown1
        unfold RowEl
        rw [HE.out, elL_append, List.length_append]
        have e : elL [S.el x] = elC (S.el x) := by simp [elL]
        rw [e]
        exact this, (HY2.out.alloc HY2.out.size _).grown hgrow1 (by rw [World.size_alloc]; exact Nat.le_succ_of_le HY2.out.size) (fun z hz => (HRO.out.lt z hz).1)⟩
      case measure => simp [intOf]; omega
    · obtain rfl : k = S.L.length := by omega
      have HO := Lib.hid hown
      have HBE := Lib.hid hbel
      clear hown hbel
      go_wp2
      go_ret
      refine ⟨_, rfl, ?_, HB.out.trans (HBE.out.mono HB.out.size)⟩
      have := HO.out
      rw [List.take_length] at this
      exact own_le this HB.out.size
end Go.Proofs.Ytohpablkgfkelaa
