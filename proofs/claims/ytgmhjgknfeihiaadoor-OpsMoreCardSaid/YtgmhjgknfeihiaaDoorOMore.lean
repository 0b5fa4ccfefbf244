/- A SET GROWS CLOSED: the walk. -/
import Derived.Test.YtgmhjgknfeihiaaDoorOMoreP
import Derived.Test.YtgmhjgknfeihiaaDoorONext
import Derived.Test.YtgmhjgknfeihiaaDoorOApp
import Derived.Test.YtgmhjgknfeihiaaDoorInv
import Derived.Test.YtgmhjgknfeihiaaDoorOLaw
namespace Go.Proofs.YtgmhjgknfeihiaaDoor
open Go.RowKit Go.Joins
set_option linter.unusedSimpArgs false
set_option linter.unusedVariables false
theorem early_bool {P : Program} {f : Nat} {args : Array Value} {w : World} (h : Calls P f args w fun e w' => e = .returned (.bool true) ∧ Below w.heap.size w w') : Calls P f args w fun e w' => e = .returned (.bool true) ∧ Below w.heap.size w w' := h
theorem closed_of {L : List OpG} {ao : Option Addr} {cap : Nat} {b : Bool} (hb : closedB L = b) (w : World) (hA : OpsAt w ao L) (hf : ∀ o ∈ L, o.fine) (hn : L.length < 4294967296) :
    Calls Tryd.prog 11 #[.slice ao L.length cap] w fun e w' => e = .returned (.bool b) ∧ Below w.heap.size w w' := bool_of hb (closed_any w ao cap L hA hf hn)
/-- the blocks of the call -/
structure MM (w : World) (v : V8) (n r : Int) (o : OpG) (a s p : Nat) (y : World) : Prop where
  below : Below w.heap.size w y
  vb : y.heap[a]? = some (.cells v.row 25 (0, 0))
  sb : y.heap[s]? = some (.cells #[.int .i64 n, .int .i64 r] 23 (0, 0))
  ob : y.heap[p]? = some (.cells o.cells 31 (0, 0))
theorem MM.later {w : World} {v : V8} {n r : Int} {o : OpG} {a s p : Nat} {y z : World} (h : MM w v n r o a s p y) (b : Below y.heap.size y z) : MM w v n r o a s p z :=
  ⟨h.below.trans (b.mono h.below.size), (b.block _ (heap_lt h.vb)).trans h.vb, (b.block _ (heap_lt h.sb)).trans h.sb, (b.block _ (heap_lt h.ob)).trans h.ob⟩
theorem bldN (n r a0 a1 a2 a3 a4 a5 a6 a7 : Int) (w : World) : (Instr.build 31 #[(0, .agg #[.int .i64 n, .int .i64 r]), (1, .agg #[.int .i64 a0, .int .i64 a1, .int .i64 a2, .int .i64 a3, .int .i64 a4, .int .i64 a5, .int .i64 a6, .int .i64 a7]), (2, .int .i64 1), (4, .int .i64 2), (5, .int .i64 97)]).run Tryd.prog w =
    .ok (OpG.val (newO n r ⟨a0, a1, a2, a3, a4, a5, a6, a7⟩)) w := run_build w 31 _ _ (by kernel_rfl)
/-- the region in which the operation is added to the list: what has been done -/
structure R8 (x5 : World) (ao : Option Addr) (cap : Nat) (L : List OpG) (o : OpG) (D : Nat → Bool) (x : Nat → Value) (y : World) : Prop where
  b : Below x5.heap.size x5 y
  f0 : D 0 = true → D 2 = false → OwnO y x5.heap.size (x 0) []
  f1 : D 1 = true → x 1 = .slice ao L.length cap
  f2 : D 2 = true → D 5 = false → OwnO y x5.heap.size (x 2) L
  f3 : D 3 = true → x 3 = o.val
  f4 : D 4 = true → D 5 = false → ∃ n, x 4 = .slice (some ⟨n, 0, none⟩) 1 1 ∧ y.heap[n]? = some (.cells o.cells 31 (0, 0)) ∧ (D 0 = true → D 2 = false → (x 0).ownBlock ≠ some n)
  f5 : D 5 = true → D 2 = true ∧ OwnO y x5.heap.size (x 5) (L ++ [o])
  f6 : D 6 = true → D 5 = true ∧ x 6 = x 5
theorem done_ne {D : Nat → Bool} {i j : Nat} (h : j ≠ i) : done D i j = D j := by simp [done, h]
theorem done_eq (D : Nat → Bool) (i : Nat) : done D i i = true := by simp [done]
theorem setX_ne {x : Nat → Value} {i j : Nat} {v : Value} (h : j ≠ i) : setX x i v j = x j := by simp [setX, h]
theorem setX_eq (x : Nat → Value) (i : Nat) (v : Value) : setX x i v i = v := by simp [setX]
theorem run_bs0 (y : World) : (Instr.buildSlice 35 0 #[]).run Tryd.prog y = .ok (.slice (some ⟨y.heap.size, 0, none⟩) 0 0) (y.alloc (.cells #[] 31)) := by kernel_rfl
theorem run_bs1 (o : OpG) (y : World) : (Instr.buildSlice 35 1 #[(0, o.val)]).run Tryd.prog y = .ok (.slice (some ⟨y.heap.size, 0, none⟩) 1 1) (y.alloc (.cells o.cells 31)) := by kernel_rfl
theorem own_lt {w : World} {base n : Nat} {v : Value} {L : List OpG} (h : OwnO w base v L) (hn : w.heap.size ≤ n) : v.ownBlock ≠ some n := by
  rcases h.form with ⟨rfl, rfl⟩ | ⟨B, c, cur, rfl, hB, hb, -⟩
  · intro e; cases e
  · intro e
    cases e
    have := heap_lt hb
    exact absurd this (Nat.not_lt.2 hn)
set_option maxHeartbeats 8000000 in
set_option maxRecDepth 100000 in
theorem more_walk (w : World) (ao : Option Addr) (cap : Nat) (L : List OpG) (r : Int) (hA : OpsAt w ao L) (hf : ∀ o ∈ L, o.fine) (h0 : ao = none → cap = 0) (hlen : L.length ≤ maxLen) :
    Calls Tryd.prog 5 #[.slice ao L.length cap, .int .i64 r] w fun e w' => e = .returned (.bool true) ∧ Below w.heap.size w w' := by
  have AL := Lib.hid alive_any
  by_cases h60 : 60 < L.length
  · have d60 : decide ((60 : Int) < (L.length : Int)) = true := decide_eq_true (by omega)
    clear hA hf
    go_enter Tryd.func5, Tryd.ntmps5
    go_wp2_with fail
    with_reducible refine (AL.out _).mono ?_
    rintro e w2 ⟨rfl, h2⟩
    go_wp2
    go_ret
    exact ⟨rfl, h2⟩
  have d60 : decide ((60 : Int) < (L.length : Int)) = false := decide_eq_false (by omega)
  by_cases hr0 : r < 0
  · have dr : decide (r < 0) = true := decide_eq_true hr0
    clear hA hf hr0
    go_enter Tryd.func5, Tryd.ntmps5
    go_wp2_with fail
    with_reducible refine (AL.out _).mono ?_
    rintro e w2 ⟨rfl, h2⟩
    go_wp2
    go_ret
    exact ⟨rfl, h2⟩
  have dr : decide (r < 0) = false := decide_eq_false hr0
  by_cases hr8 : 8 ≤ r
  · have d8 : decide (8 ≤ r) = true := decide_eq_true hr8
    clear hA hf hr0 hr8
    go_enter Tryd.func5, Tryd.ntmps5
    go_wp2_with fail
    with_reducible refine (AL.out _).mono ?_
    rintro e w2 ⟨rfl, h2⟩
    go_wp2
    go_ret
    exact ⟨rfl, h2⟩
  have d8 : decide (8 ≤ r) = false := decide_eq_false hr8
  cases hc : closedB L with
  | false =>
    have C := Lib.hid (closed_of (cap := cap) hc w hA hf (by omega))
    clear hA hf hr0 hr8 hc
    go_enter Tryd.func5, Tryd.ntmps5
    go_wp2_with fail
    with_reducible refine C.out.mono ?_
    rintro e w1 ⟨rfl, h1⟩
    have H1 := Lib.hid h1
    clear h1
    go_wp2_with fail
    with_reducible refine (AL.out _).mono ?_
    rintro e w2 ⟨rfl, h2⟩
    have H2 := Lib.hid h2
    clear h2
    go_wp2
    go_ret
    exact ⟨rfl, H1.out.trans (H2.out.mono H1.out.size)⟩
  | true =>
    have C := Lib.hid (closed_of (cap := cap) hc w hA hf (by omega))
    have HA := Lib.hid hA
    have HF := Lib.hid hf
    have HCL := Lib.hid (closed_iff.1 hc)
    have HR := Lib.hid (And.intro (show 0 ≤ r by omega) (show r < 8 by omega))
    clear hA hf hr0 hr8 hc
    go_enter Tryd.func5, Tryd.ntmps5
    go_wp2_with fail
    with_reducible refine C.out.mono ?_
    rintro e w1 ⟨rfl, h1⟩
    have H1 := Lib.hid h1
    clear h1 d60 dr d8
    have M := Lib.hid (most_ops w1 ao cap L (HA.out.below H1.out) (by omega))
    obtain ⟨v, hv⟩ : ∃ v, v = mostP L := ⟨_, rfl⟩
    rw [← hv] at M
    have HV := Lib.hid hv
    clear hv
    go_wp2_with fail
    with_reducible refine M.out.mono ?_
    rintro e w2 ⟨rfl, h2⟩
    have H2 := Lib.hid (H1.out.trans (h2.mono H1.out.size))
    clear h2 M
    go_upto_region 4 with (refine wpList_store_fresh rfl (.tmp 5) (.tmp 28) 25 rfl (w2.heap.size) _ _ rfl (by simp) rfl (by kernel_rfl) (by kernel_rfl) (by kernel_rfl) ?_)
    refine wp_let' (fun y => Below w.heap.size w y ∧ y.heap[w2.heap.size]? = some (.cells v.row 25 (0, 0))) ⟨H2.out.alloc H2.out.size _, blk_new _ _⟩ (fun x hx => ?_)
    have HX := Lib.hid hx
    clear hx
    have e0 := blk_cell HX.out.2 0
    have e1 := blk_cell HX.out.2 1
    have e2 := blk_cell HX.out.2 2
    have e3 := blk_cell HX.out.2 3
    have e4 := blk_cell HX.out.2 4
    have e5 := blk_cell HX.out.2 5
    have e6 := blk_cell HX.out.2 6
    have e7 := blk_cell HX.out.2 7
    have MV := Lib.hid (fun w => most_any v w)
    go_wp2_with fail
    with_reducible refine (MV.out _).mono ?_
    rintro e x2 ⟨rfl, h2⟩
    have HX2 := Lib.hid (And.intro (HX.out.1.trans (h2.mono HX.out.1.size)) ((h2.block _ (heap_lt HX.out.2)).trans HX.out.2))
    clear h2 e0 e1 e2 e3 e4 e5 e6 e7 MV
    have hge : 0 ≤ v.most := by rw [HV.out]; exact most_nonneg _ (mostP_ge L)
    have hr := HR.out
    by_cases hfull : 1048576 ≤ v.most
    · have N := next_any v.most r x2
      rw [show nextE v.most r = 11 from (if_neg (by omega)).trans (if_pos hfull)] at N
      generalize nextN v.most r = n1 at N
      generalize nextR v.most r = r1 at N
      have N := Lib.hid N
      clear hfull hge hr
      go_wp2_with fail
      with_reducible refine N.out.mono ?_
      rintro e x3 ⟨rfl, h3⟩
      have HX3 := Lib.hid (HX2.out.1.trans (h3.mono HX2.out.1.size))
      clear h3
      go_wp2_with (refine wpList_store_fresh rfl (.tmp 6) (.tmp 34) 23 rfl (x3.heap.size) _ _ rfl (by simp) rfl (by kernel_rfl) (by kernel_rfl) (by kernel_rfl) ?_)
      go_ret
      exact ⟨rfl, HX3.out.alloc HX3.out.size _⟩
    · have N := next_any v.most r x2
      rw [show nextE v.most r = 0 from (if_neg (by omega)).trans (if_neg hfull), show nextN v.most r = v.most + 1 from (if_neg (by omega)).trans (if_neg hfull), show nextR v.most r = r from (if_neg (by omega)).trans (if_neg hfull)] at N
      have N := Lib.hid N
      have hlt : (mostP L).most < 1048576 := by rw [← HV.out]; omega
      have HP := Lib.hid (And.intro (newO_right L r hr.1 hr.2 hlt) (And.intro (newO_closed L r hr.1 hr.2 hlt HCL.out) (newO_most L ((mostP L).most + 1) r (mostP L))))
      rw [← HV.out] at HP
      generalize v.most + 1 = n1 at HP N
      clear hfull hge hr hlt
      go_upto_region 5 with ((with_reducible refine N.out.mono ?_; rintro e x3 ⟨rfl, h3⟩) )
      have hq := Lib.hid ((HX2.out.1.trans (h3.mono HX2.out.1.size)))
      have hvq := (h3.block _ (heap_lt HX2.out.2)).trans HX2.out.2
      refine wp_let' (fun y => Below w.heap.size w y ∧ y.heap[w2.heap.size]? = some (.cells v.row 25 (0, 0)) ∧ y.heap[x3.heap.size]? = some (.cells #[.int .i64 n1, .int .i64 r] 23 (0, 0))) ⟨hq.out.alloc hq.out.size _, blk_alloc hvq, blk_new _ _⟩ (fun x4 hx4 => ?_)
      have H4 := Lib.hid hx4
      clear hx4 h3 hvq hq
      have e0 := blk_cell H4.out.2.1 0
      have e1 := blk_cell H4.out.2.1 1
      have e2 := blk_cell H4.out.2.1 2
      have e3 := blk_cell H4.out.2.1 3
      have e4 := blk_cell H4.out.2.1 4
      have e5 := blk_cell H4.out.2.1 5
      have e6 := blk_cell H4.out.2.1 6
      have e7 := blk_cell H4.out.2.1 7
      have s0 := blk_cell H4.out.2.2 0
      have s1 := blk_cell H4.out.2.2 1
      have bl := bldN n1 r v.x0 v.x1 v.x2 v.x3 v.x4 v.x5 v.x6 v.x7
      go_upto_region 8 with (refine wpList_store_fresh rfl (.tmp 8) (.tmp 42) 31 rfl (x4.heap.size) _ _ rfl (by simp) rfl (by kernel_rfl) (by kernel_rfl) (by kernel_rfl) ?_)
      refine wp_let' (MM w v n1 r (newO n1 r v) w2.heap.size x3.heap.size x4.heap.size) ⟨H4.out.1.alloc H4.out.1.size _, blk_alloc H4.out.2.1, blk_alloc H4.out.2.2, blk_new _ _⟩ (fun x5 hx5 => ?_)
      have H5 := Lib.hid hx5
      clear hx5 e0 e1 e2 e3 e4 e5 e6 e7 s0 s1 bl
      generalize hno : newO n1 r v = o at *
      have HNO := Lib.hid hno
      clear hno
      simp only [Act.put]
      go_cut [9] (fun c y => OwnO y x5.heap.size c (L ++ [o]) ∧ Below x5.heap.size x5 y)
      case first =>
        refine wp_act (fun b hb => ?_)
        have e0 : b.tmps.getD 0 undef = .slice ao L.length cap := by subst hb; kernel_rfl
        have e8 : b.tmps.getD 8 undef = .pointer (some ⟨x4.heap.size, 0, none⟩) := by subst hb; kernel_rfl
        have es : b.tmps.size = 66 := by subst hb; kernel_rfl
        have HB := Lib.hid hb
        clear hb
        refine wp_region_inv (by kernel_rfl) (by kernel_rfl) (by kernel_rfl) (R8 x5 ao cap L o) ?_ ?_ ?_
        · exact ⟨(Below.refl _ _).drew, (fun h => by cases h), (fun h => by cases h), (fun h => by cases h), (fun h => by cases h), (fun h => by cases h), (fun h => by cases h), (fun h => by cases h)⟩
        · intro i p hp D x y hD hdep hR K hK
          rcases i with _ | _ | _ | _ | _ | _ | _ | i
          · simp only [List.getElem?_toArray, List.getElem?_cons_succ, List.getElem?_cons_zero, Option.some.injEq, Nat.zero_add] at hp
            subst hp
            refine step_bs rfl #[] rfl #[] rfl (run_bs0 y) (hK _ _ ?_)
            have bl : Below y.heap.size y (y.alloc (.cells #[] 31)) := (Below.refl _ _).alloc (Nat.le_refl _) _
            refine ⟨hR.b.trans (bl.mono hR.b.size), fun _ _ => ?_, fun h => ?_, fun h h' => ?_, fun h => ?_, fun h h' => ?_, fun h => ?_, fun h => ?_⟩
            · rw [setX_eq]; exact (own_emptyW y).base (fun b hb => by cases hb; exact hR.b.size)
            · exact hR.f1 h
            · exact (hR.f2 h h').later bl
            · exact hR.f3 h
            · obtain ⟨n, h1, h2, h3⟩ := hR.f4 h h'
              refine ⟨n, h1, blk_alloc h2, fun _ _ e => ?_⟩
              rw [setX_eq] at e
              have := heap_lt h2
              cases e
              exact Nat.lt_irrefl _ this
            · exact ⟨(hR.f5 h).1, (hR.f5 h).2.later bl⟩
            · exact hR.f6 h
          · simp only [List.getElem?_toArray, List.getElem?_cons_succ, List.getElem?_cons_zero, Option.some.injEq, Nat.zero_add] at hp
            subst hp
            refine step_move rfl (.tmp 0) rfl (puts_eval0 x 0 _ _ e0 (by kernel_rfl)) (hK _ _ ?_)
            exact ⟨hR.b, hR.f0, (fun _ => by rw [setX_eq]), hR.f2, hR.f3, hR.f4, hR.f5, hR.f6⟩
          · simp only [List.getElem?_toArray, List.getElem?_cons_succ, List.getElem?_cons_zero, Option.some.injEq, Nat.zero_add] at hp
            subst hp
            have d0 : D 0 = true := hdep ⟨0, .data⟩ (by simp) rfl
            have d1 : D 1 = true := hdep ⟨1, .data⟩ (by simp) rfl
            have d5 : D 5 = false := by
              cases h : D 5 with
              | false => rfl
              | true => rw [(hR.f5 h).1] at hD; cases hD
            refine step_wp rfl (wp_appO (.tmp 43) (.tmp 44) rfl x5.heap.size (x 0) [] L (puts_eval x 43 _ _ (by kernel_rfl) (by rw [es]; decide) (by kernel_rfl)) (hR.f0 d0 hD) ao cap ((puts_eval x 44 _ _ (by kernel_rfl) (by rw [es]; decide) (by kernel_rfl)).trans (hR.f1 d1)) h0 (HA.out.below (H5.out.later hR.b).below) (by simp; omega) hR.b.size fun v' z h1 h2 => hK _ _ ?_)
            refine ⟨hR.b.grown h2 hR.b.size (fun k hk => (hR.f0 d0 hD).up hk), fun _ h => (by cases h), hR.f1, fun _ _ => ?_, hR.f3, fun h h' => ?_, fun h => ?_, hR.f6⟩
            · rw [setX_eq]; exact h1
            · obtain ⟨n, k1, k2, k3⟩ := hR.f4 h h'
              exact ⟨n, k1, grown_keep h2 n _ k2 (k3 d0 hD), fun _ h => by cases h⟩
            · rw [show done D 2 5 = D 5 from rfl, d5] at h; cases h
          · simp only [List.getElem?_toArray, List.getElem?_cons_succ, List.getElem?_cons_zero, Option.some.injEq, Nat.zero_add] at hp
            subst hp
            refine step_load rfl (.tmp 8) rfl (puts_eval0 x 8 _ _ e8 (by kernel_rfl)) (run_loadAt_whole Tryd.underlying31 (by kernel_rfl) (H5.out.later hR.b).ob) (hK _ _ ?_)
            exact ⟨hR.b, hR.f0, hR.f1, hR.f2, fun _ => by rw [setX_eq], hR.f4, hR.f5, hR.f6⟩
          · simp only [List.getElem?_toArray, List.getElem?_cons_succ, List.getElem?_cons_zero, Option.some.injEq, Nat.zero_add] at hp
            subst hp
            have d3 : D 3 = true := hdep ⟨3, .data⟩ (by simp) rfl
            refine step_bs rfl #[(0, .tmp 46)] rfl #[(0, o.val)] (congrArg (fun v => [(0, v)]) ((puts_eval x 46 _ _ (by kernel_rfl) (by rw [es]; decide) (by kernel_rfl)).trans (hR.f3 d3))) (run_bs1 o y) (hK _ _ ?_)
            have bl : Below y.heap.size y (y.alloc (.cells o.cells 31)) := (Below.refl _ _).alloc (Nat.le_refl _) _
            refine ⟨hR.b.trans (bl.mono hR.b.size), fun h h' => (hR.f0 h h').later bl, hR.f1, fun h h' => (hR.f2 h h').later bl, hR.f3, fun _ _ => ?_, fun h => ⟨(hR.f5 h).1, (hR.f5 h).2.later bl⟩, hR.f6⟩
            refine ⟨y.heap.size, by rw [setX_eq], blk_new _ _, fun h h' => own_lt (hR.f0 h h') (Nat.le_refl _)⟩
          · simp only [List.getElem?_toArray, List.getElem?_cons_succ, List.getElem?_cons_zero, Option.some.injEq, Nat.zero_add] at hp
            subst hp
            have d2 : D 2 = true := hdep ⟨2, .data⟩ (by simp) rfl
            have d4 : D 4 = true := hdep ⟨4, .data⟩ (by simp) rfl
            obtain ⟨n, k1, k2, k3⟩ := hR.f4 d4 hD
            refine step_wp rfl (wp_appO (.tmp 45) (.tmp 47) rfl x5.heap.size (x 2) L [o] (puts_eval x 45 _ _ (by kernel_rfl) (by rw [es]; decide) (by kernel_rfl)) (hR.f2 d2 hD) (some ⟨n, 0, none⟩) 1 ((puts_eval x 47 _ _ (by kernel_rfl) (by rw [es]; decide) (by kernel_rfl)).trans k1) (fun h => by cases h) (blk_one k2) (by simp; omega) hR.b.size fun v' z h1 h2 => hK _ _ ?_)
            refine ⟨hR.b.grown h2 hR.b.size (fun k hk => (hR.f2 d2 hD).up hk), fun h h' => ?_, hR.f1, fun _ h => (by cases h), hR.f3, fun _ h => (by cases h), fun _ => ?_, fun h => ?_⟩
            · rw [show done D 5 2 = D 2 from rfl, d2] at h'; cases h'
            · exact ⟨d2, by rw [setX_eq]; exact h1⟩
            · rw [(hR.f6 h).1] at hD; cases hD
          · simp only [List.getElem?_toArray, List.getElem?_cons_succ, List.getElem?_cons_zero, Option.some.injEq, Nat.zero_add] at hp
            subst hp
            have d5 : D 5 = true := hdep ⟨5, .data⟩ (by simp) rfl
            refine step_assign rfl (.tmp 48) rfl (puts_eval x 48 _ _ (by kernel_rfl) (by rw [es]; decide) (i := 5) (by kernel_rfl)) (hK _ _ ?_)
            exact ⟨hR.b, hR.f0, hR.f1, hR.f2, hR.f3, hR.f4, hR.f5, fun _ => ⟨d5, by rw [setX_eq]; rfl⟩⟩
          · cases hp
        · intro D x y hD hR
          have h5 := (hR.f5 (hD 5 (by decide))).2
          have h6 := (hR.f6 (hD 6 (by decide))).2
          rw [← h6] at h5
          have hb := hR.b
          clear hR hD e0 e8 es
          rw [HB.out]
          simp only [puts, Act.put, List.setIfInBounds_toArray, List.set_cons_zero, List.set_cons_succ]
          go_wp2_with fail
          go_meet
          exact ⟨h5, hb⟩
      case rest =>
        obtain ⟨hown, hb⟩ := hcut
        obtain ⟨a9, c9, rfl, h9, hat⟩ := hown.at'
        have hlen2 : (L ++ [o]).length < 4294967296 := by simp; omega
        have hff : ∀ q ∈ L ++ [o], q.fine := fun q hq => by
          rcases List.mem_append.1 hq with hq | hq
          · exact HF.out q hq
          · simp at hq; subst hq; exact HNO.out ▸ newO_fine n1 r v
        have RO := Lib.hid (fun y => bool_of HP.out.1 (opsRight_any o (HNO.out ▸ newO_fine n1 r v) y))
        have RC := Lib.hid (fun n => closed_of (cap := c9) (closed_yes HP.out.2.1) (ext wc n) (hat.below (ext_below wc n)) hff hlen2)
        have RM := Lib.hid (fun n => most_ops (ext wc n) a9 c9 (L ++ [o]) (hat.below (ext_below wc n)) hlen2)
        have RW := Lib.hid (fun y => with_any v n1 r y)
        have HE := Lib.hid HP.out.2.2
        have M9 := Lib.hid (H5.out.later hb)
        have hlo : (L ++ [o]).length = L.length + 1 := by simp
        have RL := Lib.hid (fun n (hn : ∃ m, n = ext wc m) => blk_load (hn.elim fun m e => e ▸ (M9.out.later (ext_below wc m)).ob))
        have hcv : ∀ n i, (ext wc n).cell? ⟨w2.heap.size, i, none⟩ = v.row[i]? := fun n i => blk_cell (M9.out.later (ext_below wc n)).vb i
        have hcs : ∀ n i, (ext wc n).cell? ⟨x3.heap.size, i, none⟩ = (#[.int .i64 n1, .int .i64 r] : Array Value)[i]? := fun n i => blk_cell (M9.out.later (ext_below wc n)).sb i
        have HC : ∀ y, (∃ n, y = ext wc n) → ∀ (j : Nat) z, (OpG.cells o)[j]? = some z → y.cell? ⟨x4.heap.size, 0 + j, none⟩ = some z := RL.out
        have HC := Lib.hid HC
        clear RL hat hff hlen2 hown
        rw [HE.out] at RM
        have hbe := beq_eta (v.with n1 r) (v.with n1 r) rfl
        generalize v.with n1 r = u at *
        rw [← hlo] at *
        generalize L ++ [o] = Lo at *
        have hgu := run_guard
        have heq := run_eqv
        go_upto_region 9 with fail
        refine region_ext (by kernel_rfl) (by kernel_rfl) ?_
        go_big_quiet_step (with_reducible exact calls_ext (AL.out _))
        go_big_quiet_step (fail)
        go_big_quiet_want
        refine quiet_loadS (.tmp 8) 31 rfl (b := x4.heap.size) (off := 0) (cs := OpG.cells o) rfl Tryd.underlying31 (by kernel_rfl) HC.out ?_
        go_big_quiet_on
        simp only [Act.put, List.setIfInBounds_toArray, List.set_cons_zero, List.set_cons_succ]
        go_big_quiet_step (with_reducible exact calls_ext (RO.out _))
        repeat (go_big_quiet_step (first | with_reducible exact calls_ext (RC.out _) | with_reducible exact calls_ext (RM.out _) | with_reducible exact calls_ext (RW.out _)))
        refine wpQuiet_nil ?_
        rintro _ ⟨nq, rfl⟩
        go_wp2_with fail
        go_ret
        exact ⟨rfl, M9.out.below.trans ((ext_below wc nq).mono M9.out.below.size)⟩
end Go.Proofs.YtgmhjgknfeihiaaDoor
