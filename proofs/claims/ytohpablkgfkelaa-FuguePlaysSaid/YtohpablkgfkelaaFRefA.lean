/- THE DOCUMENT's TEXT: All, Shown, At, Index. -/
import Derived.Test.YtohpablkgfkelaaFRefO
namespace Go.Proofs.Ytohpablkgfkelaa
open Go.RowKit Go.Joins
set_option linter.unusedSimpArgs false
set_option linter.unusedVariables false

def shownE (l : List El) : List El := l.filter fun x => !x.g
theorem shownE_map (S : Tx) (l : List St) : shownE (l.map S.el) = (shownL S.gone l).map S.el := by
  unfold shownE shownL
  rw [List.filter_map]
  rfl
theorem shownE_len (S : Tx) (l : List St) : (shownE (l.map S.el)).length = cnt S.gone l := by
  rw [shownE_map, List.length_map]; rfl
theorem shownE_next {l : List El} {q : Nat} {y : El} (h : l[q]? = some y) : shownE (l.take (q + 1)) = shownE (l.take q) ++ (if y.g then [] else [y]) := by
  unfold shownE
  rw [List.take_add_one, h, List.filter_append]
  congr 1
  cases hg : y.g <;> simp [hg]
theorem shownE_le (l : List El) : (shownE l).length ≤ l.length := List.length_filter_le _ _
def ShT (L : List El) (w : World) (e : Ending) (w' : World) : Prop := ∃ v, e = .returned v ∧ RowEl w' w.heap.size v (shownE L) ∧ Below w.heap.size w w'
set_option maxHeartbeats 4000000 in
set_option maxRecDepth 20000 in
theorem all_ref (w : World) (m : Nat) (I : List It) (S : Tx) (F : Nat → Prop) (h : RefM w m I F) (hR : Ref I S) (hl : I.length < 4294967296) :
    Calls Try.prog 29 #[ptr m] w (OrdT S S.L w) := by
  have HK := Lib.hid (kids_any w m I S F h hR hl (0, 0) 2)
  have HM := Lib.hid h
  have HR := Lib.hid hR
  clear h hR
  go_enter Try.func29, Try.ntmps29
  go_wp2_with fail
  with_reducible refine HK.out.mono ?_
  rintro e w1 ⟨v1, L1, rfl, hk, hr, hbb⟩
  obtain ⟨n1, hn1⟩ : ∃ z, L1.length = z := ⟨_, rfl⟩
  obtain ⟨ak, ck, rfl, hat⟩ := hr.news hn1
  have hSl : S.L.length < 4294967296 := by rw [← HR.out.length]; exact hl
  have HO := Lib.hid (order_any m I S F HR.out hl S.L.length S.L (Nat.le_refl _) hSl w1 ak ck L1 n1 hn1 (by have := hk.le HR.out; omega) ⟨HM.out.later hbb, hat, fun a ha => (by have := ((hk.mem a).1 ha).1; rwa [List.take_length] at this), by rw [hk.keys HR.out]; exact HR.out.ok.fl⟩)
  have HB := Lib.hid hbb
  clear hk hr hat hbb hn1 hSl
  go_wp2_with fail
  with_reducible refine HO.out.mono ?_
  rintro e w2 ⟨v2, rfl, hr, hbb⟩
  have HR2 := Lib.hid (own_le hr HB.out.size)
  have HB2 := Lib.hid (HB.out.trans (hbb.mono HB.out.size))
  clear hr hbb
  go_wp2
  go_ret
  exact ⟨_, rfl, HR2.out, HB2.out⟩
set_option maxHeartbeats 4000000 in
set_option maxRecDepth 20000 in
theorem shown_ref (w : World) (ao : Option Addr) (cap : Nat) (L : List El) (n : Nat) (hA : ElsAt w ao L) (hn : L.length = n) (hnb : n < 4294967296) :
    Calls Try.prog 30 #[.slice ao n cap] w (ShT L w) := by
  obtain ⟨i0, hi, hz0, hz1, hz2⟩ := info_parts infoEl
  have HA := Lib.hid hA
  have HN := Lib.hid hn
  clear hA hn
  go_enter Try.func30, Try.ntmps30
  go_wp2
  go_loopw [3, 4] (fun v i wr => ∃ (q : Nat), i = .int .i64 q ∧ q ≤ n ∧ RowEl wr w.heap.size v (shownE (L.take q)) ∧ Below w.heap.size w wr) (fun _ i _ => n - (intOf i).toNat)
  case atStart => exact ⟨0, rfl, Nat.zero_le _, World.ownsRow_nil _ _ _ _, Below.refl _ _⟩
  case round =>
    obtain ⟨q, rfl, hq, hrow, hbel⟩ := hrel
    have HRW := Lib.hid hrow
    have HB := Lib.hid hbel
    clear hrow hbel
    by_cases hql : q < n
    · obtain ⟨x, hx⟩ : ∃ x, L[q]? = some x := ⟨_, List.getElem?_eq_getElem (by rw [HN.out]; exact hql)⟩
      obtain ⟨B1, rfl, -, c1⟩ := HA.out.below HB.out q x hx
      have d0 := c1 0 _ rfl
      have d1 := c1 1 _ rfl
      have d2 := c1 2 _ rfl
      have d3 := c1 3 _ rfl
      simp only [Nat.add_zero] at d0
      have HS := Lib.hid (shownE_next hx)
      have b0 : (0 : Int) ≤ (q : Int) := by omega
      have b1 : (q : Int) < (n : Int) := by omega
      clear c1 hx
      cases hg : x.g
      · have HG := Lib.hid hg
        rw [hg] at d3
        have HRA := Lib.hid (HRW.out.later ((Below.refl wr.heap.size wr).alloc (Nat.le_refl _) (.cells #[.int .i64 x.k.1, .int .i64 x.k.2, .int .i64 x.c, .bool false] 44)))
        have HBA := Lib.hid (HB.out.alloc HB.out.size (.cells #[.int .i64 x.k.1, .int .i64 x.k.2, .int .i64 x.c, .bool false] 44))
        have HEC := Lib.hid (show elC x = [.int .i64 x.k.1, .int .i64 x.k.2, .int .i64 x.c, .bool false] by simp [elC, hg])
        have HLN := Lib.hid (show (shownE (L.take q)).length ≤ q by have := shownE_le (L.take q); simp at this; omega)
        clear hg
        go_wp2_with (at_builtin; refine append_any rfl (.tmp 17) (.tmp 22) 38 rfl w.heap.size 44 i0 _ 4 32 Try.underlying38 hi hz0 hz1 hz2 rfl (by decide) u3 _ _ rfl HRA.out (some ⟨wr.heap.size, 0, none⟩) 1 1 (elC x) rfl rfl (by intro h; cases h) (fun ad e j u hj => by cases e; rw [Addr.add_lit, Nat.zero_add, blk_cell (blk_new _ _), ← Array.getElem?_toList]; rw [HEC.out] at hj; exact hj) (elC_one _) (by have := HLN.out; unfold maxLen; omega) (by have := HLN.out; omega) HBA.out.size ?_; intro v4 w4 own grow)
        have HB4 := Lib.hid (HBA.out.grown grow HBA.out.size (fun z hz => (HRA.out.lt z hz).1))
        have HR4 := Lib.hid (show RowEl w4 w.heap.size v4 (shownE (L.take (q + 1))) by
          unfold RowEl
          rw [HS.out, HG.out]
          simp only [Bool.false_eq_true, if_false]
          rw [elL_append, List.length_append, show elL [x] = elC x by simp [elL]]
          exact own)
        clear own grow
        go_roundw
        case rel => exact ⟨q + 1, by go_num, by omega, HR4.out, HB4.out⟩
        case measure => simp [intOf]; omega
      · rw [hg] at d3
        have HR4 := Lib.hid (show RowEl wr w.heap.size u3 (shownE (L.take (q + 1))) by
          rw [HS.out, hg]
          simp only [if_true, List.append_nil]
          exact HRW.out)
        clear hg
        go_wp2
        go_roundw
        case rel => exact ⟨q + 1, by go_num, by omega, HR4.out, HB.out⟩
        case measure => simp [intOf]; omega
    · obtain rfl : q = n := by omega
      have HT := Lib.hid (show L.take q = L by rw [← HN.out, List.take_length])
      go_wp2
      go_ret
      exact ⟨_, rfl, by have := HRW.out; rwa [HT.out] at this, HB.out⟩
end Go.Proofs.Ytohpablkgfkelaa
