/- CAUSAL, TWICE IS ONCE: the walk; the store of a law that is filled in the law's own world. -/
import Derived.Test.YtiamohfpohjdpaaDoorCFill
import Derived.Deep.CutBlock
namespace Go.Proofs.YtiamohfpohjdpaaDoor
open Go.RowKit Go.Joins
set_option linter.unusedSimpArgs false
set_option linter.unusedVariables false
/-- the store of a law, made in the law's own world -/
structure SL (w : World) (s : Nat) (A W : List OpG) (k : Nat) (F : Nat → Prop) (z : World) : Prop where
  sf : SF s A W k F z
  up : ∀ x, F x → w.heap.size ≤ x
  b : Below w.heap.size w z
section
variable {w z z' : World} {s k m : Nat} {A W A' W' : List OpG} {F F' : Nat → Prop}
theorem SL.later (h : SL w s A W k F z) (b : Below z.heap.size z z') : SL w s A W k F z' := ⟨h.sf.later b, h.up, h.b.trans (b.mono h.b.size)⟩
theorem SL.turn (h : SL w s A W k F z) (h2 : SF s A' W' m F' z') (c : Ch F z z') (hF : ∀ x, F' x → F x ∨ z.heap.size ≤ x) : SL w s A' W' m F' z' :=
  ⟨h2, fun x hx => (hF x hx).elim (h.up x) (fun h3 => Nat.le_trans h.b.size h3), ((Ch.of_below (F := fun _ => False) h.b).trans c (fun x hx e => by have := h.up x e; omega)).none⟩
theorem OpBox.put {o p : OpG} {w y y2 : World} (h : OpBox o w y) (c : Ch (fun x => x = w.heap.size) y y2) (hy : y2.heap[w.heap.size]? = some (.cells p.cells 39 (0, 0))) : OpBox p w y2 :=
  ⟨((Ch.of_below (F := fun _ => False) h.1).trans c (fun x hx e => by omega)).none, hy⟩
end
set_option maxHeartbeats 8000000 in
set_option maxRecDepth 100000 in
theorem ctwice_walk (L : List OpG) (ao : Option Addr) (cap : Nat) (w : World) (hL : L.length ≤ maxLen) (hfi : ∀ o ∈ L, o.fine) (hat : OpsAt w ao L) : Calls Tryd.prog 4 #[.slice ao L.length cap] w fun e w' => e = .returned (.bool true) ∧ Below w.heap.size w w' := by
  have AL := Lib.hid alive_any
  have HA := Lib.hid hat
  have HF := Lib.hid hfi
  unfold maxLen at hL
  clear hat hfi
  go_enter Tryd.func4, Tryd.ntmps4
  go_wp2_with fail
  with_reducible refine (newF_any w).mono ?_
  rintro e w1 ⟨s, rfl, ⟨F0, h1, h2⟩, hb⟩
  have H1 := Lib.hid (show SL w s [] [] 0 F0 w1 from ⟨h1, h2, hb⟩)
  clear h1 h2 hb
  go_wp2_with fail
  with_reducible refine (AL.out _).mono ?_
  rintro e w2 ⟨rfl, hb⟩
  have H2 := Lib.hid (H1.out.later hb)
  clear hb H1
  go_upto_block 0 with fail
  go_cut [] (fun y => ∃ k A W F, k ≤ 200 ∧ SL w s A W k F y)
  case first =>
    go_wp2_with fail
    go_loopw [4] (fun vi wr => ∃ (q : Nat) (A W : List OpG) (F : Nat → Prop), vi = .int .i64 q ∧ q ≤ L.length ∧ q ≤ 200 ∧ SL w s A W q F wr) (fun vi _ => L.length - (intOf vi).toNat)
    case atStart => exact ⟨0, [], [], F0, rfl, Nat.zero_le _, Nat.zero_le _, H2.out⟩
    case round =>
      obtain ⟨q, A, W, F, rfl, hq1, hq2, hs⟩ := hrel
      have HS := Lib.hid hs
      clear hs
      by_cases hk : q < L.length ∧ q < 200
      · obtain ⟨hk, h3⟩ := hk
        obtain ⟨o, ho⟩ : ∃ o, L[q]? = some o := ⟨_, List.getElem?_eq_getElem hk⟩
        obtain ⟨b, off, rfl, hbw, hc⟩ := HA.out.below HS.out.b q o ho
        have HFO := Lib.hid (HF.out o (List.mem_of_getElem? ho))
        have HC := Lib.hid hc
        have b0 : (0 : Int) ≤ (q : Int) := by omega
        have b1 : (q : Int) < (L.length : Int) := by omega
        clear hc hbw ho
        go_wp2_with (refine wpList_load_at (.tmp 35) 39 rfl rfl b (off + q * 26) o.cells rfl Tryd.underlying39 (by kernel_rfl) HC.out ?_)
        with_reducible refine (HS.out.sf.add (by omega) o HFO.out).mono ?_
        rintro e y ⟨ao2, c2, n2, res, err, A2, W2, F2, rfl, rfl, h1, h2, h3', h4, h5⟩
        have HS2 := Lib.hid (HS.out.turn h2 h3' h4)
        clear h1 h2 h3' h4 h5
        go_wp2
        go_roundw
        case rel => exact ⟨q + 1, A2, W2, F2, by go_num, by omega, by omega, HS2.out⟩
        case measure => simp [intOf]; omega
      · rcases (show (q < L.length ∧ ¬ q < 200) ∨ ¬ q < L.length by omega) with ⟨g1, g2⟩ | g1
        all_goals
          go_wp2_with fail
          go_meet
          exact ⟨q, A, W, F, hq2, HS.out⟩
  case rest =>
    obtain ⟨k, A, W, F, hk2, hs⟩ := hcut
    obtain ⟨wk, hwk⟩ : ∃ wk, wk = wc := ⟨_, rfl⟩
    subst hwk
    have HS := Lib.hid hs
    clear hs H2 HA HF
    go_wp2_with fail
    with_reducible refine (HS.out.sf.all (by omega)).mono ?_
    rintro e w3 ⟨aa, na, ca, rfl, rfl, h1, h2⟩
    have HS3 := Lib.hid (HS.out.later h2)
    have HR3 := Lib.hid (show KR wk.heap.size aa A.length ca A F w3 from KR.new h1 HS.out.sf.bd)
    clear h1 h2
    go_wp2_with fail
    with_reducible refine (HS3.out.sf.pending (by omega)).mono ?_
    rintro e w4 ⟨aw, nw, cw, rfl, rfl, h1, h2⟩
    have HS4 := Lib.hid (HS3.out.later h2)
    have HR4 := Lib.hid (HR3.out.later h2)
    have HW4 := Lib.hid (show KR w3.heap.size aw W.length cw W F w4 from KR.new h1 HS3.out.sf.bd)
    clear h1 h2 HS3 HR3 HS
    have hA := HS4.out.sf.alen
    have hW := HS4.out.sf.wlen
    have hbd := bldO0
    go_wp2_with fail
    go_loopw [7] (fun vi wr => ∃ (q : Nat) (G : Nat → Prop), vi = .int .i64 q ∧ q ≤ A.length + W.length ∧ SL w s A W k G wr ∧ KR wk.heap.size aa A.length ca A G wr ∧ KR w3.heap.size aw W.length cw W G wr) (fun vi _ => A.length + W.length - (intOf vi).toNat)
    case atStart => exact ⟨0, F, rfl, Nat.zero_le _, HS4.out, HR4.out, HW4.out⟩
    case round =>
      obtain ⟨q, G, rfl, hq, hs, hr1, hr2⟩ := hrel
      have HS := Lib.hid hs
      have HR1 := Lib.hid hr1
      have HR2 := Lib.hid hr2
      clear hs hr1 hr2 HS4 HR4 HW4
      by_cases hql : q < A.length + W.length
      · obtain ⟨o, ho⟩ : ∃ o, (A ++ W)[q]? = some o := ⟨_, List.getElem?_eq_getElem (by simpa using hql)⟩
        have HOO := Lib.hid ho
        have HFO := Lib.hid (HS.out.sf.fine (List.mem_of_getElem? ho))
        clear ho
        go_upto_region 14 with (refine wpList_store_fresh rfl (.tmp 8) (.tmp 51) 39 rfl (wr.heap.size) _ _ rfl rfl rfl (by kernel_rfl) (by kernel_rfl) (by kernel_rfl) ?_)
        refine wp_let' (OpBox nulO wr) (opBox_new nulO wr) (fun y1 hy1 => ?_)
        have HX1 := Lib.hid hy1
        clear hy1
        simp only [Act.put, List.setIfInBounds_toArray, List.set_cons_zero, List.set_cons_succ]
        go_upto_if 55 with fail
        go_cut [] (fun y => OpBox o wr y)
        case first =>
          by_cases hqa : q < A.length
          · have ho := HOO.out
            rw [List.getElem?_append_left hqa] at ho
            obtain ⟨-, b, off, rfl, hb1, hc⟩ := (HR1.out.later HX1.out.1).get ho
            have HC := Lib.hid hc
            have b0 : (0 : Int) ≤ (q : Int) := by omega
            have b1 : (q : Int) < (A.length : Int) := by omega
            clear ho hc hb1
            go_wp2_with (first | refine wpList_load_at (.tmp 58) 39 rfl rfl b (off + q * 26) o.cells rfl Tryd.underlying39 (by kernel_rfl) HC.out ?_ | (refine wpList_store_row rfl (.tmp 8) (.tmp 59) 39 rfl (wr.heap.size) nulO.cells o.cells rfl rfl HX1.out.2 (by kernel_rfl) (by kernel_rfl) (by kernel_rfl) ?_; intro y2 hc2 hy2; have HY2 := Lib.hid (And.intro hc2 hy2); clear hc2 hy2))
            go_meet
            exact HX1.out.put HY2.out.1 HY2.out.2
          · obtain ⟨j, hj⟩ : ∃ j, q = A.length + j := ⟨q - A.length, by omega⟩
            have ho := HOO.out
            rw [List.getElem?_append_right (by omega), show q - A.length = j by omega] at ho
            obtain ⟨-, b, off, rfl, hb1, hc⟩ := (HR2.out.later HX1.out.1).get ho
            have HC := Lib.hid hc
            have hjl : j < W.length := by omega
            have b0 : (0 : Int) ≤ (j : Int) := by omega
            have b1 : (j : Int) < (W.length : Int) := by omega
            have dq : decide ((q : Int) < (A.length : Int)) = false := decide_eq_false (by omega)
            have ej : (q : Int) - (A.length : Int) = (j : Int) := by omega
            clear ho hc hb1 hj
            go_wp2_with (first | refine wpList_load_at (.tmp 65) 39 rfl rfl b (off + j * 26) o.cells rfl Tryd.underlying39 (by kernel_rfl) HC.out ?_ | (refine wpList_store_row rfl (.tmp 8) (.tmp 66) 39 rfl (wr.heap.size) nulO.cells o.cells rfl rfl HX1.out.2 (by kernel_rfl) (by kernel_rfl) (by kernel_rfl) ?_; intro y2 hc2 hy2; have HY2 := Lib.hid (And.intro hc2 hy2); clear hc2 hy2))
            go_meet
            exact HX1.out.put HY2.out.1 HY2.out.2
        case rest =>
          have HX := Lib.hid hcut
          clear hcut HX1
          have HS1 := Lib.hid (HS.out.later HX.out.1)
          have HR11 := Lib.hid (HR1.out.later HX.out.1)
          have HR21 := Lib.hid (HR2.out.later HX.out.1)
          go_wp2_with (refine wpList_load_whole (.tmp 8) 39 rfl rfl wr.heap.size o.cells rfl Tryd.underlying39 (by kernel_rfl) HX.out.2 ?_)
          with_reducible refine (HS1.out.sf.add (by omega) o HFO.out).mono ?_
          rintro e y ⟨ao2, c2, n2, res, err, A2, W2, F2, rfl, rfl, h1, h2, h3, h4, h5⟩
          obtain ⟨e1, e2, e3, e4⟩ := add_there h1 (HS1.out.sf.stb.ok o (List.mem_of_getElem? HOO.out)) (Cz.mem_ids.2 ⟨o, List.mem_of_getElem? HOO.out, rfl⟩)
          subst e1 e2
          rw [e3, e4] at h2
          have HS2 := Lib.hid (show SL w s A W k F2 y from HS1.out.turn ⟨h2.st, h2.bd, h2.stb, HS.out.sf.len⟩ h3 h4)
          have HR12 := Lib.hid (HR11.out.step h3 h4)
          have HR22 := Lib.hid (HR21.out.step h3 h4)
          clear h1 h2 h3 h4 h5 e3 e4
          go_wp2
          go_roundw
          case rel => exact ⟨q + 1, F2, by go_num, by omega, HS2.out, HR12.out, HR22.out⟩
          case measure => simp [intOf]; omega
      · have dq : decide ((q : Int) < (A.length : Int) + (W.length : Int)) = false := decide_eq_false (by omega)
        go_wp2_with fail
        refine (HS.out.sf.add (by omega) nulO nulO_fine).mono ?_
        rintro e y ⟨ao2, c2, n2, res, err, A2, W2, F2, rfl, rfl, h1, h2, h3, h4, h5⟩
        obtain ⟨e1, e2, e3, e4⟩ := add_bad h1 nulO_bad
        subst e1 e2
        rw [e3, e4] at h2
        have HS2 := Lib.hid (show SL w s A W k F2 y from HS.out.turn ⟨h2.st, h2.bd, h2.stb, HS.out.sf.len⟩ h3 h4)
        have HR12 := Lib.hid (HR1.out.step h3 h4)
        have HR22 := Lib.hid (HR2.out.step h3 h4)
        clear h1 h2 h3 h4 h5 e3 e4
        go_wp2_with fail
        with_reducible refine (HS2.out.sf.all (by omega)).mono ?_
        rintro e y2 ⟨a5, n5, c5, rfl, rfl, h1, h2⟩
        have hsm := sameOps_any y2 a5 aa c5 ca A A h1.at.2 (HR12.out.later h2).own.at.2 (by omega)
        rw [show decide (A = A) = true from decide_eq_true rfl] at hsm
        have HSM := Lib.hid hsm
        have HS3 := Lib.hid (HS2.out.later h2)
        have HR23 := Lib.hid (HR22.out.later h2)
        clear h1 h2 hsm
        go_wp2_with fail
        with_reducible refine HSM.out.mono ?_
        rintro e y3 ⟨rfl, hb⟩
        have HS4 := Lib.hid (HS3.out.later hb)
        have HR24 := Lib.hid (HR23.out.later hb)
        clear hb
        go_wp2_with fail
        with_reducible refine (HS4.out.sf.pending (by omega)).mono ?_
        rintro e y4 ⟨a6, n6, c6, rfl, rfl, h1, h2⟩
        have hsm := sameOps_any y4 a6 aw c6 cw W W h1.at.2 (HR24.out.later h2).own.at.2 (by omega)
        rw [show decide (W = W) = true from decide_eq_true rfl] at hsm
        have HSN := Lib.hid hsm
        have HS5 := Lib.hid (HS4.out.later h2)
        clear h1 h2 hsm
        go_wp2_with fail
        with_reducible refine HSN.out.mono ?_
        rintro e y5 ⟨rfl, hb⟩
        have HS6 := Lib.hid (HS5.out.later hb)
        clear hb
        go_wp2
        go_ret
        exact ⟨rfl, HS6.out.b⟩
end Go.Proofs.YtiamohfpohjdpaaDoor
