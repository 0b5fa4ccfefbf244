/- THE LAW FugueStays. -/
import Derived.Test.YtohpablkgfkelaaFWritten
import Derived.Test.YtohpablkgfkelaaRows
import Derived.ProofKit
import Derived.OpenShut
import Derived.ShutString
import Derived.ChangeOld
import Derived.Below
namespace Go.Proofs.Ytohpablkgfkelaa
open Go.ChangeShapes Go.WideShapes Go.ChangeAt Go.RowKit
open Go.ChangeMaps (open_string shut_string)
set_option linter.unusedVariables false
set_option linter.unusedSimpArgs false

open Go.Joins
/-- all elements of a text, one of them taken away -/
theorem els_del {S : Tx} (hn : S.L.Nodup) {k : St} {i : Nat} (hi : S.L[i]? = some k) : S.els.set i ⟨k, S.ch k, true⟩ = (S.del k).els := by
  apply List.ext_getElem?
  intro j
  unfold Tx.els
  rw [List.getElem?_set, List.getElem?_map, List.length_map]
  show _ = (S.L.map (S.del k).el)[j]?
  rw [List.getElem?_map]
  by_cases hj : i = j
  · subst hj
    rw [if_pos rfl, if_pos (List.getElem?_eq_some_iff.1 hi).1, hi]
    simp [Tx.el, Tx.del, setH]
  · rw [if_neg hj]
    cases hx : S.L[j]? with
    | none => rfl
    | some x =>
      have hne : x ≠ k := fun e => by
        subst e
        obtain ⟨h1, h2⟩ := List.getElem?_eq_some_iff.1 hi
        obtain ⟨h3, h4⟩ := List.getElem?_eq_some_iff.1 hx
        rw [← h2] at h4
        exact hj ((List.getElem_inj hn).1 h4.symm)
      simp [Tx.el, Tx.del, setH, hne]
theorem elL_set : ∀ (l : List El) (i : Nat) (x : El), l[i]? = some x → elL (l.set i ⟨x.k, x.c, true⟩) = (elL l).set (i * 4 + 3) (.bool true)
  | [], i, x, h => by simp at h
  | y :: l, 0, x, h => by
    simp at h
    subst h
    simp [elL, elC]
  | y :: l, i + 1, x, h => by
    have ih := elL_set l i x (by simpa using h)
    unfold elL at *
    rw [List.set_cons_succ, List.flatMap_cons, ih, List.flatMap_cons, List.set_append, if_neg (by simp [elC]; omega)]
    congr 2
    simp [elC]
    omega
theorem RowEl.gone {w : World} {base : Nat} {v : Value} {l : List El} (h : RowEl w base v l) {i : Nat} {x : El} (hx : l[i]? = some x) :
    ∃ B cap cur, v = .slice (some ⟨B, 0, none⟩) l.length cap ∧ base ≤ B ∧ w.heap[B]? = some (.cells cur 44 (0, 0)) ∧ cur[i * 4 + 3]? = some (.bool x.g) ∧
      RowEl (w.setCell ⟨B, i * 4 + 3, none⟩ (.bool true)) base v (l.set i ⟨x.k, x.c, true⟩) := by
  have hil := (List.getElem?_eq_some_iff.1 hx).1
  rcases h.2 with ⟨rfl, h0⟩ | ⟨B, cap, cur, he, hbase, hb, hnc, hc, hs, ht⟩
  · omega
  · have h1 := elL_get l i x 3 (.bool x.g) hx rfl
    rw [← ht, List.getElem?_take, if_pos (by omega), Array.getElem?_toList] at h1
    refine ⟨B, cap, cur, he, hbase, hb, h1, by rw [elL_length, List.length_set], .inr ⟨B, cap, cur.setIfInBounds (i * 4 + 3) (.bool true), by rw [List.length_set]; exact he, hbase, blk_set hb _, by rw [List.length_set]; exact hnc, hc, by simpa using hs, ?_⟩⟩
    rw [elL_set l i x hx, ← ht, List.length_set, Array.toList_setIfInBounds, List.take_set]
theorem placeE_in {S : Tx} {k : St} (hk : k ∈ S.L) : placeE S.els k = (S.L.idxOf k : Nat) := by
  unfold placeE Tx.els
  have e : (S.L.map S.el).map (·.k) = S.L := by rw [List.map_map]; simp [Function.comp_def, Tx.el]
  rw [e, if_pos hk]
theorem placeE_out {S : Tx} {k : St} (hk : k ∉ S.L) : placeE S.els k = -1 := by
  unfold placeE Tx.els
  have e : (S.L.map S.el).map (·.k) = S.L := by rw [List.map_map]; simp [Function.comp_def, Tx.el]
  rw [e, if_neg hk]
theorem RowEl.ch {F : Nat → Prop} {w w' : World} {base : Nat} {v : Value} {l : List El} (h : RowEl w base v l) (c : Ch F w w') (hF : ∀ x, F x → x < base) : RowEl w' base v l :=
  own_ch h c (fun b hb hf => by have := (h.lt b hb).1; have := hF b hf; omega)
theorem RowEl.later {w w' : World} {base : Nat} {v : Value} {l : List El} (h : RowEl w base v l) (b : Below w.heap.size w w') : RowEl w' base v l := own_ch h (Ch.of_below (F := fun _ => False) b) (fun _ _ h => h)
theorem els_len (S : Tx) : S.els.length = S.L.length := by simp [Tx.els]
theorem RowEl.formS {w : World} {base : Nat} {v : Value} {S : Tx} {n : Nat} (h : RowEl w base v S.els) (hn : S.L.length = n) : ∃ ao cap, v = .slice ao n cap ∧ ElsAt w ao S.els := by
  obtain ⟨ao, cap, hv, he, -⟩ := h.form
  rw [els_len, hn] at hv
  exact ⟨ao, cap, hv, he⟩
theorem same_els (w : World) (ao bo : Option Addr) (ca cb : Nat) (S S' : Tx) (n m : Nat) (hA : ElsAt w ao S.els) (hB : ElsAt w bo S'.els) (hn : S.L.length = n) (hm : S'.L.length = m) (hl : n < 4294967296) (hl2 : m < 4294967296) (b : Bool) (hb : decide (S.els = S'.els) = b) :
    Calls Try.prog 15 #[.slice ao n ca, .slice bo m cb] w fun e w' => e = .returned (.bool b) ∧ Below w.heap.size w w' := by
  have := same_any w ao bo ca cb S.els S'.els hA hB (by rw [els_len]; omega) (by rw [els_len]; omega)
  rw [els_len, els_len, hn, hm, hb] at this
  exact this
theorem placeR_els (w : World) (ao : Option Addr) (ca : Nat) (S : Tx) (n : Nat) (hA : ElsAt w ao S.els) (hn : S.L.length = n) (hl : n < 4294967296) (k : St) :
    Calls Try.prog 18 #[.slice ao n ca, encS k] w fun e w' => e = .returned (.int .i64 (placeE S.els k)) ∧ Below w.heap.size w w' := by
  have := placeR_any w ao ca S.els hA (by rw [els_len]; omega) k
  rw [els_len, hn] at this
  exact this
set_option maxHeartbeats 8000000 in
set_option maxRecDepth 20000 in
theorem fugueStays_walk (ao : Option Addr) (cap : Nat) (A : List ActG) (k : St) (w : World) (hlen : A.length ≤ maxLen) (hA : ActsAt w ao A) :
    Calls Try.prog 4 #[.slice ao A.length cap, encS k] w fun e w' => e = .returned (.bool true) ∧ Below w.heap.size w w' := by
  have HW0 := Lib.hid (fun (x : World) (hx : KB w k w.heap.size x) => written_any x ao cap A hlen (hA.below hx.b))
  clear hA hlen
  go_enter Try.func4, Try.ntmps4
  go_upto_region 1 with fail
  refine wp_let (KB w k w.heap.size) (KB.new w k) (fun x hx => ?_)
  have HX := Lib.hid hx
  have HW := Lib.hid (HW0.out x hx)
  have hws := heap_lt hx.bx
  clear hx HW0
  go_wp2_with fail
  with_reducible refine HW.out.mono ?_
  rintro e w1 ⟨t, S, v, l, rfl, hWr, hC, hl80⟩
  have HWr := Lib.hid hWr
  have HC := Lib.hid hC
  have HAL := Lib.hid (alive_any w1)
  obtain ⟨cs, T, htp⟩ := hWr.text.blk
  clear hWr hC HW
  go_wp2_with fail
  with_reducible refine HAL.out.mono ?_
  rintro e w2 ⟨rfl, hb2⟩
  have HT2 := Lib.hid ((HWr.out.text.later hb2).bnd)
  have HX2 := Lib.hid (HX.out.later (HWr.out.b.trans (hb2.mono HWr.out.b.size)))
  have hok := HT2.out.ok
  have HOK := Lib.hid hok
  have hLl := HC.out.length
  have HA2 := Lib.hid (all_text w2 t S _ HT2.out)
  have hsz2 : x.heap.size ≤ w2.heap.size := Nat.le_trans HWr.out.b.size hb2.size
  have HSZ2 := Lib.hid hsz2
  have HBX2 := Lib.hid (HWr.out.b.trans (hb2.mono HWr.out.b.size))
  clear hb2 HAL htp hok hsz2
  go_wp2_with fail
  with_reducible refine HA2.out.mono ?_
  rintro e w3 ⟨v7, rfl, hrow, hb3⟩
  have HROW := Lib.hid hrow
  obtain ⟨a7, c7, rfl, hels⟩ := hrow.formS rfl
  have HT3 := Lib.hid (HT2.out.later hb3)
  have HX3 := Lib.hid (HX2.out.later hb3)
  have HBX3 := Lib.hid (HBX2.out.trans (hb3.mono HSZ2.out))
  have HL3 := Lib.hid (len_text w3 t S _ HT3.out)
  have HPL := Lib.hid (placeR_els w3 a7 c7 S _ hels rfl (by omega) k)
  have x0 := HX3.out.c0
  have x1 := HX3.out.c1
  clear hrow hels hb3 HA2
  go_wp2_with (with_reducible refine HL3.out.mono ?_; rintro e w' ⟨rfl, rfl⟩)
  with_reducible refine HPL.out.mono ?_
  rintro e w4 ⟨rfl, hb4⟩
  have HT4 := Lib.hid (HT3.out.later hb4)
  have HX4 := Lib.hid (HX3.out.later hb4)
  have HROW4 := Lib.hid (HROW.out.later hb4)
  have HBX4 := Lib.hid (HBX3.out.trans (hb4.mono HBX3.out.size))
  have HD := Lib.hid (delete_text w4 t S _ HT4.out k)
  clear x0 x1 hb4 HPL HL3
  have x0 := HX4.out.c0
  have x1 := HX4.out.c1
  by_cases hk : k ∈ S.L
  · rw [placeE_in hk]
    have hd := HD.out
    unfold DelT Tx.dele at hd
    rw [if_pos hk, if_pos hk] at hd
    have HD := Lib.hid hd
    have HK := Lib.hid hk
    have hil := List.idxOf_lt_length_of_mem hk
    have hik : S.L[S.L.idxOf k]? = some k := by rw [List.getElem?_eq_getElem hil, List.getElem_idxOf hil]
    clear hd hk
    generalize S.L.idxOf k = i at *
    have HED := Lib.hid (els_del HOK.out.nodup hik)
    have hxel : S.els[i]? = some (S.el k) := by unfold Tx.els; rw [List.getElem?_map, hik]; rfl
    have HXEL := Lib.hid hxel
    have hcs := cnt_set (hid := S.gone) (b := true) HOK.out.nodup HK.out
    have hcl := cnt_le S.gone S.L
    have HN2 := Lib.hid (show (S.del k).dele k = S.del k by
      unfold Tx.dele
      rw [if_pos (show k ∈ (S.del k).L from HK.out)]
      unfold Tx.del
      congr 1
      exact setH_same (by simp [setH]))
    clear hik hxel
    go_wp2_with fail
    with_reducible refine HD.out.mono ?_
    rintro e w5 ⟨rfl, hT5, hc5⟩
    have HT5 := Lib.hid hT5
    have hrow5 := HROW4.out.ch hc5 (fun y hy => hy.2)
    have HBX5 := Lib.hid (Ch.deep HBX4.out hc5 (fun y hy => hy.1.1))
    have hx5 := hc5.at HX4.out.bx (fun e => by have := e.1.1; omega)
    obtain ⟨B, cp, cur, hsl, hB2, hblk, hcell, hset⟩ := hrow5.gone HXEL.out
    rw [els_len] at hsl
    cases hsl
    have HSET := Lib.hid hset
    have HX5 := Lib.hid hx5
    have g0 := blk_cell hblk (i * 4 + 3)
    rw [hcell] at g0
    have g1 := blk_free hblk (i * 4 + 3)
    have b0 : (0 : Int) ≤ (i : Int) := by omega
    have b1 : (i : Int) < (S.L.length : Int) := by omega
    have HB2' := Lib.hid hB2
    clear hT5 hc5 HD x0 x1 hrow5 hx5 hB2 hblk hcell hset
    have e0 : (S.el k).g = S.gone k := rfl
    rw [e0] at g0
    clear e0
    generalize hgk : S.gone k = gk at *
    have hdl : (S.del k).L.length = S.L.length := rfl
    have HF6 : Ch (fun y => y = B) w5 (w5.setCell ⟨B, i * 4 + 3, none⟩ (.bool true)) := (Ch.refl (fun y => y = B) w5).setCell ⟨B, i * 4 + 3, none⟩ (.bool true) (fun _ => rfl)
    have HF6 := Lib.hid HF6
    have HTB : (cnt (S.del k).gone (S.del k).L : Int) = (if gk then (cnt S.gone S.L : Int) else (cnt S.gone S.L : Int) - 1) := by
      show ((cnt (setH S.gone k true) S.L : Nat) : Int) = _
      cases gk <;> simp at hcs ⊢ <;> omega
    have HTB := Lib.hid HTB
    cases gk
    all_goals
      have htb := HTB.out
      first | rw [if_pos rfl] at htb | rw [if_neg (by decide)] at htb
      have HTB := Lib.hid htb
      clear htb
      go_upto_region 13 with fail
      refine wp_let (fun z => RowEl z w2.heap.size (.slice (some ⟨B, 0, none⟩) S.L.length c7) (S.del k).els ∧ Text z t (S.del k) (fun y => (x.heap.size ≤ y ∧ v.ownBlock ≠ some y) ∧ y < w2.heap.size) ∧ Below x.heap.size x z ∧ z.heap[w.heap.size]? = some (.cells #[.int .i64 k.1, .int .i64 k.2] 30 (0, 0))) ⟨?_, HT5.out.ch HF6.out (fun y hy e => by have := HB2'.out; omega), Ch.deep HBX5.out HF6.out (fun y hy => by have := HB2'.out; have := HSZ2.out; omega), HF6.out.at HX5.out (fun e => by have := HB2'.out; have := HSZ2.out; omega)⟩ (fun z hz => ?_)
      · have := HSET.out
        rw [show (⟨(S.el k).k, (S.el k).c, true⟩ : El) = ⟨k, S.ch k, true⟩ from rfl, HED.out] at this
        exact this
      clear g0 g1 HSET HT5 HX5
      obtain ⟨hz1, hz2, hz3, hz4⟩ := hz
      have HR6 := Lib.hid hz1
      have HT6 := Lib.hid hz2
      have HB6 := Lib.hid hz3
      have x0 := blk_cell hz4 0
      have x1 := blk_cell hz4 1
      have HX6 := Lib.hid hz4
      have HA6 := Lib.hid (all_text z t (S.del k) _ HT6.out)
      clear hz1 hz2 hz3 hz4
      go_wp2_with fail
      with_reducible refine HA6.out.mono ?_
      rintro e w7 ⟨v7, rfl, hrow7, hb7⟩
      obtain ⟨a7, d7, rfl, hels7⟩ := hrow7.formS (n := S.L.length) rfl
      have HSM := Lib.hid (same_els w7 a7 _ d7 c7 (S.del k) (S.del k) _ _ hels7 ((HR6.out.later hb7).at) hdl hdl (by omega) (by omega) true (decide_eq_true rfl))
      have HT7 := Lib.hid (HT6.out.later hb7)
      have HR7 := Lib.hid (HR6.out.later hb7)
      have HB7 := Lib.hid (HB6.out.trans (hb7.mono HB6.out.size))
      have HX7 := Lib.hid ((hb7.block _ (heap_lt HX6.out)).trans HX6.out)
      clear hrow7 hels7 hb7 HA6 HR6 HT6 HB6 x0 x1
      go_wp2_with fail
      with_reducible refine HSM.out.mono ?_
      rintro e w8 ⟨rfl, hb8⟩
      have HT8 := Lib.hid (HT7.out.later hb8)
      have HR8 := Lib.hid (HR7.out.later hb8)
      have HB8 := Lib.hid (HB7.out.trans (hb8.mono HB7.out.size))
      have hx8 := (hb8.block _ (heap_lt HX7.out)).trans HX7.out
      have HX8 := Lib.hid hx8
      have x0 := blk_cell hx8 0
      have x1 := blk_cell hx8 1
      have hlen8 := len_text w8 t (S.del k) _ HT8.out
      rw [HTB.out] at hlen8
      have HL8 := Lib.hid hlen8
      have hd8 := delete_text w8 t (S.del k) _ HT8.out k
      unfold DelT at hd8
      rw [HN2.out, if_pos (show k ∈ (S.del k).L from HK.out)] at hd8
      have HD8 := Lib.hid hd8
      clear hb8 hx8 hlen8 hd8 HSM HT7 HR7 HB7 HX7
      go_wp2_with (with_reducible refine HL8.out.mono ?_; rintro e w' ⟨rfl, rfl⟩)
      with_reducible refine HD8.out.mono ?_
      rintro e w9 ⟨rfl, hT9, hc9⟩
      have HT9 := Lib.hid hT9
      have HR9 := Lib.hid (HR8.out.ch hc9 (fun y hy => hy.2))
      have HB9 := Lib.hid (Ch.deep HB8.out hc9 (fun y hy => hy.1.1))
      have HA9 := Lib.hid (all_text w9 t (S.del k) _ hT9)
      clear hT9 hc9 HD8 x0 x1
      go_wp2_with fail
      with_reducible refine HA9.out.mono ?_
      rintro e wa ⟨va, rfl, hrowa, hba⟩
      obtain ⟨aa, da, rfl, helsa⟩ := hrowa.formS (n := S.L.length) rfl
      have HSA := Lib.hid (same_els wa aa _ da c7 (S.del k) (S.del k) _ _ helsa ((HR9.out.later hba).at) hdl hdl (by omega) (by omega) true (decide_eq_true rfl))
      have HBA := Lib.hid (HB9.out.trans (hba.mono HB9.out.size))
      clear hrowa helsa hba HA9
      go_wp2_with fail
      with_reducible refine HSA.out.mono ?_
      rintro e wb ⟨rfl, hbb⟩
      have HBB := Lib.hid (HBA.out.trans (hbb.mono HBA.out.size))
      clear hbb
      go_wp2
      go_ret
      exact ⟨rfl, HX.out.b.trans (HBB.out.mono HX.out.b.size)⟩
  · rw [placeE_out hk]
    have hd := HD.out
    unfold DelT Tx.dele at hd
    rw [if_neg hk, if_neg hk] at hd
    have HD := Lib.hid hd
    clear hd hk
    go_wp2_with fail
    with_reducible refine HD.out.mono ?_
    rintro e w5 ⟨rfl, hT5, hc5⟩
    have HT5 := Lib.hid hT5
    have HROW5 := Lib.hid (HROW4.out.ch hc5 (fun y hy => hy.2))
    have HBX5 := Lib.hid (Ch.deep HBX4.out hc5 (fun y hy => hy.1.1))
    have HA5 := Lib.hid (all_text w5 t S _ hT5)
    clear hT5 hc5 HD x0 x1
    go_wp2_with fail
    with_reducible refine HA5.out.mono ?_
    rintro e w6 ⟨v6, rfl, hrow6, hb6⟩
    obtain ⟨a6, c6, rfl, hels6⟩ := hrow6.formS rfl
    have HSM := Lib.hid (same_els w6 a6 a7 c6 c7 S S _ _ hels6 ((HROW5.out.later hb6).at) rfl rfl (by omega) (by omega) true (decide_eq_true rfl))
    have HBX6 := Lib.hid (HBX5.out.trans (hb6.mono HBX5.out.size))
    clear hrow6 hels6 hb6 HA5
    go_wp2_with (with_reducible refine HSM.out.mono ?_; rintro e w' ⟨rfl, hb⟩; have HB7 := Lib.hid hb; clear hb)
    go_ret
    exact ⟨rfl, HX.out.b.trans ((HBX6.out.trans (HB7.out.mono HBX6.out.size)).mono HX.out.b.size)⟩

set_option maxRecDepth 100000 in
theorem fugueStays_lifted (os : Os) (started : os.Started) (H : Type) (enc : TypeId × Value → H) :
    ReturnsInHanded {} Try.checked os 4 .any (Rows.fugueStaysSpec.pre6 enc Try.prog Try.f4 Rows.fugueStaysRow.domain false) (Rows.fugueStaysSpec.post enc Try.prog Try.f4 false true false false) := by
  refine returnsInHanded_of_change (C := Try.checked) own started (by kernel_rfl) Try.func4
    (ChangeSpec.witness6 (enc := enc) (C := Try.checked) false ⟨#[], #[.slice none 0 0, .agg #[.int .i64 0, .int .i64 0]], []⟩ 8 (by kernel_rfl) (by kernel_rfl) (by kernel_rfl) (by kernel_rfl)) ?_
  intro W base args ds gs before hval0 hW hcnd _
  have hval : ∀ (j : Nat) t v, Try.f4.params[j]? = some t → args[j]? = some v → Value.okWide Try.prog W .any base t v := hval0
  have hW' := hW
  obtain ⟨p, q, hA0, hV, rfl, hfz, hnd⟩ := hW
  have hA : DataW.TrodAll enc Try.prog W 0 (fun _ => true) true Try.f4.params.toList args.toList ds p := hA0
  rw [Try.params4] at hA hval
  obtain ⟨v0, vs0, d0, ds0, p0, q0, hargs, rfl, rfl, h0, r0⟩ := trodAll_cons hA
  obtain ⟨v1, vs1, d1, ds1, p1, q1, rfl, rfl, rfl, h1, r1⟩ := trodAll_cons r0
  obtain ⟨rfl, rfl, rfl⟩ := trodAll_nil r1
  obtain rfl : args = #[v0, v1] := by cases args; simp_all
  obtain ⟨rfl, rfl⟩ := trodVars_none hV
  have lt0 : ∀ x ∈ p0, x.block < W.heap.size := by obtain ⟨m, hm⟩ := h0; exact DataW.trod_lt m _ _ _ hm
  have lt1 : ∀ x ∈ p1, x.block < W.heap.size := by obtain ⟨m, hm⟩ := h1; exact DataW.trod_lt m _ _ _ hm
  obtain ⟨ao, cap, A, rfl, hlen, hacts⟩ := open_acts (hval 0 22 v0 rfl rfl) h0
  obtain ⟨n1, r1, rfl, -, -⟩ := open_st (hval 1 30 v1 rfl rfl)
  clear hA0 hval0
  refine (fugueStays_walk ao cap A (n1, r1) W hlen hacts).mono fun e W' ⟨he, bel⟩ => ?_
  subst he
  exact ⟨_, rfl, _, _, _, [], _, [], hW', trodAll_mk1 (shut_bool Try.underlying4 _), (trodAll_cons_mk (Below.trod laidOut (by kernel_rfl) (of_decide_eq_true (by kernel_rfl)) h0 bel lt0) (trodAll_cons_mk (Below.trod laidOut (by kernel_rfl) (of_decide_eq_true (by kernel_rfl)) h1 bel lt1) trodAll_mk0)), rfl, bel.frame _, fun h => by cases h⟩

theorem fugueStays_holds : Rows.FugueStaysSaid :=
  OpenClaim.holds_of_wide 4 Try.f4 rfl rfl rfl rfl rfl rfl rfl ⟨rfl, rfl, rfl, rfl, rfl⟩ rfl rfl rfl rfl rfl (by kernel_rfl) Try.func4 (by kernel_rfl)
    (of_decide_eq_true (by kernel_rfl)) (by unfold Func.isWrapper; first | (rw [if_pos (by decide +kernel)]; kernel_rfl) | (rw [if_neg (by decide +kernel)]; exact ⟨rfl, rfl⟩))
    (fun os started H enc _ => fugueStays_lifted os started H enc)

end Go.Proofs.Ytohpablkgfkelaa
