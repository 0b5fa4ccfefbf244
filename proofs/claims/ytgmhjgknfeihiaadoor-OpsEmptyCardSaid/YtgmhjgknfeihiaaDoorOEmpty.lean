/- WHAT IS NOT USED IS EMPTY: the walk. -/
import Derived.Test.YtgmhjgknfeihiaaDoorOEmptyP
import Derived.Laws.Concat
namespace Go.Proofs.YtgmhjgknfeihiaaDoor
open Go.RowKit Go.Joins
set_option linter.unusedSimpArgs false
set_option linter.unusedVariables false
theorem ea_fine {o : OpG} (h : o.fine) : o.ea.fine := h
theorem eb_fine {o : OpG} (h : o.fine) : o.eb.fine := h
theorem ec1_fine {o : OpG} (h : o.fine) : o.ec1.fine := h
theorem ec2_fine {o : OpG} {s : ByteArray} (h : o.fine) (hs : s.size ≤ maxLen) : (o.ec2 s).fine := ⟨h.1, hs, h.2.2⟩
theorem ed1_fine {o : OpG} (h : o.fine) : o.ed1.fine := ⟨by show 1 ≤ maxLen; decide, h.2⟩
theorem ed2_fine {o : OpG} (h : o.fine) : o.ed2.fine := h
theorem not_any {o : OpG} (hf : o.fine) (h : o.rightP = false) (w : World) : Calls Tryd.prog 9 #[o.val] w fun e w' => e = .returned (.bool false) ∧ Below w.heap.size w w' := bool_of h (opsRight_any o hf w)
/-- the blocks of the call: each an operation's -/
structure EB (w : World) (L : List (Nat × Array Value)) (y : World) : Prop where
  below : Below w.heap.size w y
  blk : ∀ p ∈ L, y.heap[p.1]? = some (.cells p.2 31 (0, 0))
  up : ∀ p ∈ L, w.heap.size ≤ p.1
  nd : (L.map (·.1)).Nodup
theorem EB.later {w : World} {L : List (Nat × Array Value)} {y z : World} (h : EB w L y) (b : Below y.heap.size y z) : EB w L z :=
  ⟨h.below.trans (b.mono h.below.size), fun p hp => (b.block _ (heap_lt (h.blk p hp))).trans (h.blk p hp), h.up, h.nd⟩
theorem EB.push {w : World} {L : List (Nat × Array Value)} {y : World} (h : EB w L y) (C : Array Value) : EB w ((y.heap.size, C) :: L) (y.alloc (.cells C 31)) := by
  refine ⟨h.below.alloc h.below.size _, fun p hp => ?_, fun p hp => ?_, ?_⟩
  · rcases List.mem_cons.1 hp with rfl | hp
    · exact blk_new _ _
    · exact blk_alloc (h.blk p hp)
  · rcases List.mem_cons.1 hp with rfl | hp
    · exact h.below.size
    · exact h.up p hp
  · rw [List.map_cons, List.nodup_cons]
    refine ⟨fun hm => ?_, h.nd⟩
    obtain ⟨p, hp, e⟩ := List.mem_map.1 hm
    have := heap_lt (h.blk p hp)
    rw [e] at this
    exact Nat.lt_irrefl _ this
theorem EB.set {w : World} {b i : Nat} {C : Array Value} {v : Value} {L : List (Nat × Array Value)} {y : World} (h : EB w ((b, C) :: L) y) : EB w ((b, C.setIfInBounds i v) :: L) (y.setCell ⟨b, i, none⟩ v) := by
  refine ⟨h.below.setCell (h.up (b, C) (by simp)) v, fun p hp => ?_, fun p hp => ?_, h.nd⟩
  · rcases List.mem_cons.1 hp with rfl | hp
    · exact blk_set (h.blk (b, C) (by simp)) v
    · refine blk_other (h.blk p (by simp [hp])) (fun e => ?_)
      have hn := h.nd
      rw [List.map_cons, List.nodup_cons] at hn
      have e' : p.1 = b := e
      exact hn.1 (e' ▸ List.mem_map_of_mem (f := (·.1)) hp)
  · rcases List.mem_cons.1 hp with rfl | hp
    · exact h.up (b, C) (by simp)
    · exact h.up p (by simp [hp])
theorem EB.turn {w : World} {b : Nat} {C C' : Array Value} {L : List (Nat × Array Value)} {y : World} (h : EB w ((b, C) :: L) y) (e : C = C') : EB w ((b, C') :: L) y := e ▸ h
theorem EB.of {w x : World} {o : OpG} (h : OpBox o w x) : EB w [(w.heap.size, o.cells)] x := ⟨h.1, fun p hp => by simp at hp; subst hp; exact h.2, fun p hp => by simp at hp; subst hp; exact Nat.le_refl _, by simp⟩
theorem EB.one {w y : World} {L : List (Nat × Array Value)} (h : EB w L y) (k : Nat) {b : Nat} {C : Array Value} (e : L[k]? = some (b, C)) : y.heap[b]? = some (.cells C 31 (0, 0)) := h.blk (b, C) (List.mem_of_getElem? e)
theorem ea_cells' (o : OpG) : ((OpG.cells o).setIfInBounds 0 (.int .i64 0)).setIfInBounds 1 (.int .i64 0) = OpG.cells o.ea := by
  simp only [OpG.cells, OpG.ea, List.setIfInBounds_toArray, List.set_cons_zero, List.set_cons_succ]
def OpG.isC (o : OpG) : Bool := o.kd == 3 || o.kd == 4 || o.kd == 5
set_option maxHeartbeats 8000000 in
set_option maxRecDepth 100000 in
theorem empty_walk (o : OpG) (hf : o.fine) (s : ByteArray) (hs : s.size < 140737488355328) (w : World) : Calls Tryd.prog 4 #[o.val, .string s] w fun e w' => e = .returned (.bool true) ∧ Below w.heap.size w w' := by
  have AL := Lib.hid alive_any
  cases hb : o.rightP with
  | false => as_aux_lemma =>
    have R := Lib.hid (fun w => bool_of hb (opsRight_any o hf w))
    clear hb hf hs
    go_enter Tryd.func4, Tryd.ntmps4
    go_upto_region 1 with fail
    refine wp_let' (OpBox o w) (opBox_new o w) (fun x hx => ?_)
    have HX := Lib.hid hx
    clear hx
    go_wp2_with (refine wpList_load_whole (.tmp 2) 31 rfl rfl w.heap.size o.cells rfl Tryd.underlying31 (by kernel_rfl) HX.out.2 ?_)
    with_reducible refine (R.out _).mono ?_
    rintro e w1 ⟨rfl, h1⟩
    have H1 := Lib.hid (HX.out.later h1)
    clear h1
    go_wp2_with fail
    with_reducible refine (AL.out _).mono ?_
    rintro e w2 ⟨rfl, h2⟩
    have H2 := Lib.hid (H1.out.later h2)
    clear h2
    go_wp2
    go_ret
    exact ⟨rfl, H2.out.1⟩
  | true =>
    have R := Lib.hid (fun w => bool_of hb (opsRight_any o hf w))
    have hp := (pre_iff _).1 (rightP_cases hb).1
    have hr := right_iff.1 hp.1
    have hr0 : 0 ≤ o.r := hr.2.2.1
    have hr8 : o.r < 8 := hr.2.2.2
    have RA := Lib.hid (fun w => not_any (ea_fine hf) (ea_not o) w)
    have RB := Lib.hid (fun w => not_any (eb_fine hf) (eb_not hb) w)
    have HKD := Lib.hid (rightP_cases hb).2
    have HF := Lib.hid hf
    clear hb hf hp hr
    go_enter Tryd.func4, Tryd.ntmps4
    go_upto_region 1 with fail
    refine wp_let' (OpBox o w) (opBox_new o w) (fun x hx => ?_)
    have HX := Lib.hid hx
    clear hx
    go_wp2_with (refine wpList_load_whole (.tmp 2) 31 rfl rfl w.heap.size o.cells rfl Tryd.underlying31 (by kernel_rfl) HX.out.2 ?_)
    with_reducible refine (R.out _).mono ?_
    rintro e w1 ⟨rfl, h1⟩
    have E0 := Lib.hid (EB.of (HX.out.later h1))
    clear h1
    go_upto_region 4 with (first | refine wpList_load_whole (.tmp 2) 31 rfl rfl w.heap.size o.cells rfl Tryd.underlying31 (by kernel_rfl) (E0.out.one 0 rfl) ?_ | refine wpList_store_fresh rfl (.tmp 5) (.tmp 13) 31 rfl (w1.heap.size) _ _ rfl (by simp) rfl (by kernel_rfl) (by kernel_rfl) (by kernel_rfl) ?_)
    refine wp_let' (EB w [(w1.heap.size, o.cells), (w.heap.size, o.cells)]) (E0.out.push _) (fun xa hx => ?_)
    have E1 := Lib.hid hx
    clear hx
    have g0 := blk_cell (E1.out.one 0 rfl) 0
    have g1 := blk_cell (E1.out.one 0 rfl) 1
    have f0 := blk_free (E1.out.one 0 rfl) 0
    have f1 := blk_free (E1.out.one 0 rfl) 1
    go_upto_region 5 with fail
    refine wp_let' (EB w [(w1.heap.size, o.ea.cells), (w.heap.size, o.cells)]) (EB.turn (EB.set (EB.set E1.out)) (ea_cells' o)) (fun xb hx => ?_)
    have E2 := Lib.hid hx
    clear hx g0 g1 f0 f1
    go_upto_region 6 with (first | refine wpList_load_whole (.tmp 2) 31 rfl rfl w.heap.size o.cells rfl Tryd.underlying31 (by kernel_rfl) (E2.out.one 1 rfl) ?_ | refine wpList_store_fresh rfl (.tmp 6) (.tmp 16) 31 rfl (xb.heap.size) _ _ rfl (by simp) rfl (by kernel_rfl) (by kernel_rfl) (by kernel_rfl) ?_)
    refine wp_let' (EB w [(xb.heap.size, o.cells), (w1.heap.size, o.ea.cells), (w.heap.size, o.cells)]) (E2.out.push _) (fun xc hx => ?_)
    have E3 := Lib.hid hx
    clear hx
    have c0 : xc.cell? ⟨w.heap.size, 0, none⟩ = some (.int .i64 o.n) := blk_cell (E3.out.one 2 rfl) 0
    have c1 : xc.cell? ⟨w.heap.size, 1, none⟩ = some (.int .i64 o.r) := blk_cell (E3.out.one 2 rfl) 1
    have g0 : xc.cell? ⟨xb.heap.size, 2 + o.r.toNat, none⟩ = some (.int .i64 (o.d.nth o.r.toNat)) := (blk_cell (E3.out.one 0 rfl) _).trans (nth_cell o o.r.toNat (by omega))
    have f0 : xc.frozen? ⟨xb.heap.size, 2 + o.r.toNat, none⟩ = false := blk_free (E3.out.one 0 rfl) _
    go_upto_region 7 with fail
    refine wp_let' (EB w [(xb.heap.size, o.eb.cells), (w1.heap.size, o.ea.cells), (w.heap.size, o.cells)]) (EB.turn (EB.set E3.out) (eb_cells o ⟨hr0, hr8⟩)) (fun xd hx => ?_)
    have E4 := Lib.hid hx
    clear hx g0 f0 c0 c1 hr0 hr8
    go_upto_region 8 with (first | refine wpList_load_whole (.tmp 2) 31 rfl rfl w.heap.size o.cells rfl Tryd.underlying31 (by kernel_rfl) (E4.out.one 2 rfl) ?_ | refine wpList_store_fresh rfl (.tmp 7) (.tmp 25) 31 rfl (xd.heap.size) _ _ rfl (by simp) rfl (by kernel_rfl) (by kernel_rfl) (by kernel_rfl) ?_)
    refine wp_let' (EB w [(xd.heap.size, o.cells), (xb.heap.size, o.eb.cells), (w1.heap.size, o.ea.cells), (w.heap.size, o.cells)]) (E4.out.push _) (fun xe hx => ?_)
    have E5 := Lib.hid hx
    clear hx
    have ck : xe.cell? ⟨w.heap.size, 10, none⟩ = some (.int .i64 o.kd) := blk_cell (E5.out.one 3 rfl) 10
    simp only [Act.put]
    go_cut [38] (fun c wx => c = .bool o.isC ∧ wx = xe)
    case first => as_aux_lemma =>
      by_cases k3 : o.kd = 3
      · have d3 : (o.kd == 3) = true := by simp [k3]
        have HV := Lib.hid (show true = o.isC by simp [OpG.isC, k3])
        clear k3
        go_wp2_with fail
        go_meet
        exact ⟨congrArg Value.bool HV.out, rfl⟩
      · have d3 : (o.kd == 3) = false := by simp [k3]
        by_cases k4 : o.kd = 4
        · have d4 : (o.kd == 4) = true := by simp [k4]
          have HV := Lib.hid (show true = o.isC by simp [OpG.isC, k4])
          clear k3 k4
          go_wp2_with fail
          go_meet
          exact ⟨congrArg Value.bool HV.out, rfl⟩
        · have d4 : (o.kd == 4) = false := by simp [k4]
          have HV := Lib.hid (show (o.kd == 5) = o.isC by simp [OpG.isC, k3, k4])
          clear k3 k4
          go_wp2_with fail
          go_meet
          exact ⟨congrArg Value.bool HV.out, rfl⟩
    case rest =>
      obtain ⟨rfl, rfl⟩ := hcut
      clear ck
      obtain ⟨wk, hwk⟩ : ∃ wk, wk = wc := ⟨_, rfl⟩
      subst hwk
      have gc := blk_cell (E5.out.one 0 rfl) 14
      have fc := blk_free (E5.out.one 0 rfl) 14
      have gn := blk_cell (E5.out.one 0 rfl) 18
      have fn := blk_free (E5.out.one 0 rfl) 18
      go_upto_if 38 with fail
      go_cut [] (fun wx => ∃ c : OpG, c.rightP = false ∧ c.fine ∧ EB w [(xd.heap.size, c.cells), (xb.heap.size, o.eb.cells), (w1.heap.size, o.ea.cells), (w.heap.size, o.cells)] wx)
      case first => as_aux_lemma =>
        cases hc : o.isC with
        | true =>
          go_wp2_with fail
          go_meet
          refine ⟨o.ec1, ec1_not ?_, ec1_fine HF.out, EB.turn (EB.set E5.out) (ec1_cells o)⟩
          simpa [OpG.isC, or_assoc] using hc
        | false =>
          go_wp2_with fail
          go_meet
          refine ⟨o.ec2 (s ++ ⟨#[97]⟩), ec2_not ?_ (by rw [ByteArray.size_append]; show 0 < s.size + 1; omega), ec2_fine HF.out ?_, EB.turn (EB.set E5.out) (ec2_cells o _)⟩
          · simp [OpG.isC] at hc
            rcases HKD.out with ⟨k, _⟩ | ⟨k, _⟩ | ⟨k, _⟩ | ⟨k, _⟩ | ⟨k, _⟩ <;> omega
          · rw [ByteArray.size_append]
            have h2 : maxLen = 9223372036854775807 := by decide
            show s.size + 1 ≤ maxLen
            omega
      case rest =>
        obtain ⟨c, hcn, hcf, hx⟩ := hcut
        have E6 := Lib.hid hx
        have RC := Lib.hid (fun w => not_any hcf hcn w)
        clear hx gc fc gn fn hcn hcf
        go_upto_region 12 with (first | refine wpList_load_whole (.tmp 2) 31 rfl rfl w.heap.size o.cells rfl Tryd.underlying31 (by kernel_rfl) (E6.out.one 3 rfl) ?_ | refine wpList_store_fresh rfl (.tmp 8) (.tmp 43) 31 rfl (wc.heap.size) _ _ rfl (by simp) rfl (by kernel_rfl) (by kernel_rfl) (by kernel_rfl) ?_)
        refine wp_let' (EB w [(wc.heap.size, o.cells), (xd.heap.size, c.cells), (xb.heap.size, o.eb.cells), (w1.heap.size, o.ea.cells), (w.heap.size, o.cells)]) (E6.out.push _) (fun xf hx => ?_)
        have E7 := Lib.hid hx
        clear hx
        have ck : xf.cell? ⟨w.heap.size, 10, none⟩ = some (.int .i64 o.kd) := blk_cell (E7.out.one 4 rfl) 10
        have gk := blk_cell (E7.out.one 0 rfl) 17
        have fk := blk_free (E7.out.one 0 rfl) 17
        have gt := blk_cell (E7.out.one 0 rfl) 25
        have ft := blk_free (E7.out.one 0 rfl) 25
        simp only [Act.put]
        go_upto_if 46 with fail
        obtain ⟨wl, hwl⟩ : ∃ wl, wl = wc := ⟨_, rfl⟩
        subst hwl
        go_cut [] (fun wx => ∃ d : OpG, d.rightP = false ∧ d.fine ∧ EB w [(wl.heap.size, d.cells), (xd.heap.size, c.cells), (xb.heap.size, o.eb.cells), (w1.heap.size, o.ea.cells), (w.heap.size, o.cells)] wx)
        case first => as_aux_lemma =>
          by_cases k5 : o.kd = 5
          · have d5 : (o.kd == 5) = true := by simp [k5]
            have HV := Lib.hid k5
            clear k5
            go_wp2_with fail
            go_meet
            exact ⟨o.ed1, ed1_not HV.out, ed1_fine HF.out, EB.turn (EB.set E7.out) (ed1_cells o)⟩
          · have d5 : (o.kd == 5) = false := by simp [k5]
            have HV := Lib.hid k5
            clear k5
            go_wp2_with fail
            go_meet
            exact ⟨o.ed2, ed2_not HV.out, ed2_fine HF.out, EB.turn (EB.set E7.out) (ed2_cells o)⟩
        case rest =>
          obtain ⟨d, hdn, hdf, hx⟩ := hcut
          have E8 := Lib.hid hx
          have RD := Lib.hid (fun w => not_any hdf hdn w)
          clear hx ck gk fk gt ft hdn hdf
          go_wp2_with fail
          with_reducible refine (AL.out _).mono ?_
          rintro e y1 ⟨rfl, h1⟩
          have F1 := Lib.hid (E8.out.later h1)
          clear h1
          go_wp2_with (refine wpList_load_whole (.tmp 5) 31 rfl rfl w1.heap.size o.ea.cells rfl Tryd.underlying31 (by kernel_rfl) (F1.out.one 3 rfl) ?_)
          with_reducible refine (RA.out _).mono ?_
          rintro e y2 ⟨rfl, h1⟩
          have F2 := Lib.hid (F1.out.later h1)
          clear h1
          go_wp2_with (refine wpList_load_whole (.tmp 6) 31 rfl rfl xb.heap.size o.eb.cells rfl Tryd.underlying31 (by kernel_rfl) (F2.out.one 2 rfl) ?_)
          with_reducible refine (RB.out _).mono ?_
          rintro e y3 ⟨rfl, h1⟩
          have F3 := Lib.hid (F2.out.later h1)
          clear h1
          go_wp2_with (refine wpList_load_whole (.tmp 7) 31 rfl rfl xd.heap.size c.cells rfl Tryd.underlying31 (by kernel_rfl) (F3.out.one 1 rfl) ?_)
          with_reducible refine (RC.out _).mono ?_
          rintro e y4 ⟨rfl, h1⟩
          have F4 := Lib.hid (F3.out.later h1)
          clear h1
          go_wp2_with (refine wpList_load_whole (.tmp 8) 31 rfl rfl wl.heap.size d.cells rfl Tryd.underlying31 (by kernel_rfl) (F4.out.one 0 rfl) ?_)
          with_reducible refine (RD.out _).mono ?_
          rintro e y5 ⟨rfl, h1⟩
          have F5 := Lib.hid (F4.out.later h1)
          clear h1
          go_wp2_with fail
          go_ret
          exact ⟨rfl, F5.out.below⟩
end Go.Proofs.YtgmhjgknfeihiaaDoor
