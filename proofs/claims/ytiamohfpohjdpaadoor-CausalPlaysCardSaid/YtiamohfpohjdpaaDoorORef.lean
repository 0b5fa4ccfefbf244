/- WHETHER AN OPERATION MAY BE, by the reference: what is called by it. -/
import Derived.Test.YtiamohfpohjdpaaDoorORight
namespace Go.Proofs.YtiamohfpohjdpaaDoor
open Go.RowKit Go.Joins
set_option linter.unusedSimpArgs false
set_option linter.unusedVariables false
theorem none_any (n r : Int) (w : World) : Calls Tryd.prog 55 #[st n r] w fun e w' => e = .returned (.bool (noneB n r)) ∧ Below w.heap.size w w' := by
  cases rz : noneB n r
  all_goals
    have hz := st_eq (b := _) rz
    have hgs := run_stGuard
    clear rz
    go_enter Tryd.func55, Tryd.ntmps55
    go_wp2
    go_ret
    exact ⟨rfl, by (repeat' (first | with_reducible exact Below.refl _ _ | with_reducible assumption | with_reducible refine below_ext ?_ ?_ | with_reducible refine Below.alloc ?_ ?_ _ | with_reducible refine Below.drew ?_ | with_reducible refine below_drewN ?_ _ | with_reducible refine Below.setCell ?_ ?_ _ | go_size))⟩
def OpG.namesB (o : OpG) (n r : Int) (z : Bool) : Bool := (z && noneB n r) || o.hasB n r
theorem none_right {n r : Int} (h : noneB n r = true) : rightB n r = false := by
  simp only [noneB, Bool.and_eq_true, beq_iff_eq] at h
  simp [rightB, h.1]
theorem none_has {o : OpG} {n r : Int} (h : noneB n r = true) : o.hasB n r = false := by simp [OpG.hasB, none_right h]
set_option maxHeartbeats 1000000 in
theorem names_any (o : OpG) (n r : Int) (z : Bool) (w : World) : Calls Tryd.prog 56 #[o.val, st n r, .bool z] w fun e w' => e = .returned (.bool (o.namesB n r z)) ∧ Below w.heap.size w w' := by
  have t0 := Tr.nil w
  have NN := Lib.hid (fun w => none_any n r w)
  have K := Lib.hid (fun w => refHas_any o.d n r w)
  have R := Lib.hid (fun w => right1_any n r w)
  cases hr : rightB n r with
  | false =>
    have R1 := Lib.hid (fun w => bool_of hr (right1_any n r w))
    cases z with
    | false =>
      have HV := Lib.hid (show false = o.namesB n r false by simp [OpG.namesB, OpG.hasB, hr])
      clear hr
      go_enter Tryd.func56, Tryd.ntmps56
      go_wp2_with (go_at_call 54; with_reducible refine (R1.out _).mono ?_; rintro e w1 ⟨rfl, hb⟩; have t1 := Tr.later (W0 := w) (by repeat (first | with_reducible assumption | with_reducible apply Tr.alloc | with_reducible apply Tr.drew | with_reducible apply Tr.drewN | with_reducible apply Tr.ext | with_reducible apply Tr.other)) hb; have r1 := t1.rules; simp only [Rules, World.size_alloc, World.size_drew, World.size_setCell] at r1; clear hb)
      go_ret
      exact ⟨ret_bool HV.out, Tr.below (W0 := w) (by repeat (first | with_reducible assumption | with_reducible apply Tr.alloc | with_reducible apply Tr.drew | with_reducible apply Tr.drewN | with_reducible apply Tr.ext | with_reducible apply Tr.other))⟩
    | true =>
      cases hn : noneB n r
      all_goals
        have N1 := Lib.hid (fun w => bool_of hn (none_any n r w))
        have HV := Lib.hid (show _ = o.namesB n r true from (show noneB n r = o.namesB n r true by simp [OpG.namesB, OpG.hasB, hr]))
        rw [hn] at HV
        clear hr hn
        go_enter Tryd.func56, Tryd.ntmps56
        go_wp2_with (first | (go_at_call 54; with_reducible refine (R1.out _).mono ?_; rintro e w1 ⟨rfl, hb⟩; have t1 := Tr.later (W0 := w) (by repeat (first | with_reducible assumption | with_reducible apply Tr.alloc | with_reducible apply Tr.drew | with_reducible apply Tr.drewN | with_reducible apply Tr.ext | with_reducible apply Tr.other)) hb; have r1 := t1.rules; simp only [Rules, World.size_alloc, World.size_drew, World.size_setCell] at r1; clear hb) | (go_at_call 55; with_reducible refine (N1.out _).mono ?_; rintro e w1 ⟨rfl, hb⟩; have t1 := Tr.later (W0 := w) (by repeat (first | with_reducible assumption | with_reducible apply Tr.alloc | with_reducible apply Tr.drew | with_reducible apply Tr.drewN | with_reducible apply Tr.ext | with_reducible apply Tr.other)) hb; have r1 := t1.rules; simp only [Rules, World.size_alloc, World.size_drew, World.size_setCell] at r1; clear hb))
        go_ret
        exact ⟨ret_bool HV.out, Tr.below (W0 := w) (by repeat (first | with_reducible assumption | with_reducible apply Tr.alloc | with_reducible apply Tr.drew | with_reducible apply Tr.drewN | with_reducible apply Tr.ext | with_reducible apply Tr.other))⟩
  | true =>
    have R1 := Lib.hid (fun w => bool_of hr (right1_any n r w))
    have hn : noneB n r = false := by
      cases hn : noneB n r with
      | false => rfl
      | true => rw [none_right hn] at hr; cases hr
    have N1 := Lib.hid (fun w => bool_of hn (none_any n r w))
    have HV := Lib.hid (show o.d.has n r = o.namesB n r z by simp [OpG.namesB, OpG.hasB, hr, hn])
    clear hr hn
    cases z
    all_goals
      go_enter Tryd.func56, Tryd.ntmps56
      go_wp2_with (first | (go_at_call 54; with_reducible refine (R1.out _).mono ?_; rintro e w1 ⟨rfl, hb⟩; have t1 := Tr.later (W0 := w) (by repeat (first | with_reducible assumption | with_reducible apply Tr.alloc | with_reducible apply Tr.drew | with_reducible apply Tr.drewN | with_reducible apply Tr.ext | with_reducible apply Tr.other)) hb; have r1 := t1.rules; simp only [Rules, World.size_alloc, World.size_drew, World.size_setCell] at r1; clear hb) | (go_at_call 55; with_reducible refine (N1.out _).mono ?_; rintro e w1 ⟨rfl, hb⟩; have t1 := Tr.later (W0 := w) (by repeat (first | with_reducible assumption | with_reducible apply Tr.alloc | with_reducible apply Tr.drew | with_reducible apply Tr.drewN | with_reducible apply Tr.ext | with_reducible apply Tr.other)) hb; have r1 := t1.rules; simp only [Rules, World.size_alloc, World.size_drew, World.size_setCell] at r1; clear hb) | (go_at_call 38; with_reducible refine (K.out _).mono ?_; rintro e w1 ⟨rfl, hb⟩; have t1 := Tr.later (W0 := w) (by repeat (first | with_reducible assumption | with_reducible apply Tr.alloc | with_reducible apply Tr.drew | with_reducible apply Tr.drewN | with_reducible apply Tr.ext | with_reducible apply Tr.other)) hb; have r1 := t1.rules; simp only [Rules, World.size_alloc, World.size_drew, World.size_setCell] at r1; clear hb))
      go_ret
      exact ⟨ret_bool HV.out, Tr.below (W0 := w) (by repeat (first | with_reducible assumption | with_reducible apply Tr.alloc | with_reducible apply Tr.drew | with_reducible apply Tr.drewN | with_reducible apply Tr.ext | with_reducible apply Tr.other))⟩
theorem calls_let' {P : Program} {f : Nat} {args : Array Value} {Q : Ending → World → Prop} {w : World} (R : World → Prop) (hR : R w) (h : ∀ x, R x → Calls P f args x Q) : Calls P f args w Q := h w hR
theorem OpBox.later {o : OpG} {w x y : World} (h : OpBox o w x) (b : Below x.heap.size x y) : OpBox o w y := ⟨h.1.trans (b.mono h.1.size), (b.block _ (heap_lt h.2)).trans h.2⟩
def OpG.preTo (o : OpG) : Nat → Bool
  | 0 => rightB o.n o.r
  | q + 1 => o.preTo q && (decide (0 ≤ o.d.nth q) && decide (o.d.nth q < o.n))
theorem fold_min (l : List Int) : ∀ a : Int, 0 ≤ l.foldl min a ↔ 0 ≤ a ∧ ∀ x ∈ l, 0 ≤ x := by
  induction l with
  | nil => intro a; simp
  | cons b l ih =>
    intro a
    rw [List.foldl_cons, ih]
    constructor
    · rintro ⟨h, k⟩
      refine ⟨by omega, fun x hx => ?_⟩
      rcases List.mem_cons.1 hx with rfl | hx
      · omega
      · exact k x hx
    · rintro ⟨h, k⟩
      exact ⟨by have := k b (by simp); omega, fun x hx => k x (by simp [hx])⟩
theorem mx_lt (x y n : Int) : mx x y < n ↔ x < n ∧ y < n := by unfold mx; split <;> omega
theorem pre_iff (o : OpG) : o.pre = true ↔ rightB o.n o.r = true ∧ (0 ≤ o.d.x0 ∧ 0 ≤ o.d.x1 ∧ 0 ≤ o.d.x2 ∧ 0 ≤ o.d.x3 ∧ 0 ≤ o.d.x4 ∧ 0 ≤ o.d.x5 ∧ 0 ≤ o.d.x6 ∧ 0 ≤ o.d.x7) ∧ (o.d.x0 < o.n ∧ o.d.x1 < o.n ∧ o.d.x2 < o.n ∧ o.d.x3 < o.n ∧ o.d.x4 < o.n ∧ o.d.x5 < o.n ∧ o.d.x6 < o.n ∧ o.d.x7 < o.n) := by
  unfold OpG.pre V8.most Lib.minOf V8.list
  rw [Bool.and_eq_true, Bool.and_eq_true, decide_eq_true_eq, decide_eq_true_eq, fold_min]
  simp only [mx_lt, List.headD_cons, List.mem_cons, List.not_mem_nil, or_false, forall_eq_or_imp, forall_eq]
  constructor
  · rintro ⟨h, ⟨_, k⟩, m⟩
    exact ⟨h, k, by omega⟩
  · rintro ⟨h, k, m⟩
    exact ⟨h, ⟨k.1, k⟩, by omega⟩
theorem pre_to (o : OpG) : o.preTo 8 = o.pre := by
  rw [Bool.eq_iff_iff, pre_iff]
  unfold OpG.preTo OpG.preTo OpG.preTo OpG.preTo OpG.preTo OpG.preTo OpG.preTo OpG.preTo OpG.preTo
  simp only [Bool.and_eq_true, decide_eq_true_eq]
  have v0 : o.d.nth 0 = o.d.x0 := rfl
  have v1 : o.d.nth (0 + 1) = o.d.x1 := rfl
  have v2 : o.d.nth (0 + 1 + 1) = o.d.x2 := rfl
  constructor
  · rintro ⟨⟨⟨⟨⟨⟨⟨⟨h, p0⟩, p1⟩, p2⟩, p3⟩, p4⟩, p5⟩, p6⟩, p7⟩
    exact ⟨h, ⟨p0.1, p1.1, p2.1, p3.1, p4.1, p5.1, p6.1, p7.1⟩, p0.2, p1.2, p2.2, p3.2, p4.2, p5.2, p6.2, p7.2⟩
  · rintro ⟨h, ⟨a0, a1, a2, a3, a4, a5, a6, a7⟩, b0, b1, b2, b3, b4, b5, b6, b7⟩
    exact ⟨⟨⟨⟨⟨⟨⟨⟨h, a0, b0⟩, a1, b1⟩, a2, b2⟩, a3, b3⟩, a4, b4⟩, a5, b5⟩, a6, b6⟩, a7, b7⟩
theorem nth_cell (o : OpG) (q : Nat) (hq : q < 8) : o.cells[2 + q]? = some (.int .i64 (o.d.nth q)) := by
  rcases nat8 hq with rfl | rfl | rfl | rfl | rfl | rfl | rfl | rfl <;> rfl
/-- the blocks of the reference's call -/
structure RX (w : World) (o x : OpG) (s : Nat) (y : World) : Prop where
  below : Below w.heap.size w y
  ob : y.heap[w.heap.size]? = some (.cells o.cells 39 (0, 0))
  xb : y.heap[s]? = some (.cells x.cells 39 (0, 0))
  lt : w.heap.size < s
theorem RX.later {w : World} {o x : OpG} {s : Nat} {y z : World} (h : RX w o x s y) (b : Below y.heap.size y z) : RX w o x s z :=
  ⟨h.below.trans (b.mono h.below.size), (b.block _ (heap_lt h.ob)).trans h.ob, (b.block _ (heap_lt h.xb)).trans h.xb, h.lt⟩
theorem rx_new {w wc : World} {o x : OpG} (h : OpBox o w wc) : RX w o x wc.heap.size (wc.alloc (.cells x.cells 39)) :=
  ⟨h.1.alloc h.1.size _, blk_alloc h.2, blk_new _ _, heap_lt h.2⟩
theorem RX.put {w : World} {o x x' : OpG} {s : Nat} {y z : World} (h : RX w o x s y) (c : Ch (fun b => b = s) y z) (hz : z.heap[s]? = some (.cells x'.cells 39 (0, 0))) : RX w o x' s z :=
  ⟨h.below.trans (c.below h.below.size (fun b hb e => by have := h.lt; omega)), c.at h.ob (by have := h.lt; omega), hz, h.lt⟩
end Go.Proofs.YtiamohfpohjdpaaDoor
