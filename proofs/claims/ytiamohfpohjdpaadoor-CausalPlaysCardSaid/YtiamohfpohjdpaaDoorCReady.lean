/- A STORE OF OPERATIONS: own, ready, late. -/
import Derived.Test.YtiamohfpohjdpaaDoorCStore
import Derived.Test.YtiamohfpohjdpaaDoorCApp
namespace Go.Proofs.YtiamohfpohjdpaaDoor
open Go.RowKit Go.Joins
set_option linter.unusedSimpArgs false
set_option linter.unusedVariables false
open Classical

/-- the boxes of own -/
structure OB (w : World) (v : V8) (o : OpG) (x : World) : Prop where
  b : Below w.heap.size w x
  vb : x.heap[w.heap.size]? = some (.cells #[.int .i64 v.x0, .int .i64 v.x1, .int .i64 v.x2, .int .i64 v.x3, .int .i64 v.x4, .int .i64 v.x5, .int .i64 v.x6, .int .i64 v.x7] 33 (0, 0))
  ob : x.heap[w.heap.size + 1]? = some (.cells o.cells 39 (0, 0))
theorem OB.new (w : World) (v : V8) (o : OpG) : OB w v o ((w.alloc (.cells #[.int .i64 v.x0, .int .i64 v.x1, .int .i64 v.x2, .int .i64 v.x3, .int .i64 v.x4, .int .i64 v.x5, .int .i64 v.x6, .int .i64 v.x7] 33)).alloc (.cells o.cells 39)) :=
  ⟨((Below.refl _ _).alloc (Nat.le_refl _) _).alloc (by simp) _, blk_alloc (blk_new _ _), by have := blk_new (w.alloc (.cells #[.int .i64 v.x0, .int .i64 v.x1, .int .i64 v.x2, .int .i64 v.x3, .int .i64 v.x4, .int .i64 v.x5, .int .i64 v.x6, .int .i64 v.x7] 33)) (.cells o.cells 39); simpa using this⟩
theorem vec_cell {x : World} {b : Nat} {v : V8} (h : x.heap[b]? = some (.cells #[.int .i64 v.x0, .int .i64 v.x1, .int .i64 v.x2, .int .i64 v.x3, .int .i64 v.x4, .int .i64 v.x5, .int .i64 v.x6, .int .i64 v.x7] 33 (0, 0))) {k : Nat} (hk : k < 8) : x.cell? ⟨b, k, none⟩ = some (.int .i64 (v.nth k)) := by
  rw [blk_cell h]
  rcases nat8 hk with rfl | rfl | rfl | rfl | rfl | rfl | rfl | rfl <;> rfl
set_option maxHeartbeats 4000000 in
set_option maxRecDepth 100000 in
theorem own_any (v : V8) (o : OpG) (h0 : 0 ≤ o.r) (h8 : o.r < 8) (w : World) : Calls Tryd.prog 46 #[v.val, o.val] w fun e w' => e = .returned (.int .i64 (v.at o.r)) ∧ Below w.heap.size w w' := by
  go_enter Tryd.func46, Tryd.ntmps46
  go_upto_region 1 with fail
  refine wp_let' (OB w v o) (OB.new w v o) (fun x hx => ?_)
  have c1 : x.cell? ⟨w.heap.size + 1, 1, none⟩ = some (.int .i64 o.r) := blk_cell hx.ob 1
  have ck := vec_cell hx.vb (k := o.r.toNat) (by omega)
  have HV := Lib.hid (show v.nth o.r.toNat = v.at o.r from (at_nth v o.r h0).symm)
  have HX := Lib.hid hx.b
  clear hx
  go_wp2
  go_ret
  exact ⟨by simp [HV.out], HX.out⟩
theorem ready_iff {A : List OpG} {o : OpG} (h0 : 0 ≤ o.r) (h8 : o.r < 8) : Cz.Ready MO A o ↔ (∀ r : Nat, r < 8 → o.d.nth r ≠ 0 → (o.d.nth r, (r : Int)) ∈ Cz.ids MO A) ∧ o.d.at o.r = (knownV A).at o.r := by
  unfold Cz.Ready
  rw [show (MO.id o).2 = o.r from rfl, ← knownV_at A o.r h0 h8]
  constructor
  · rintro ⟨h, k⟩
    exact ⟨fun r hr hn => h r (by omega) (by omega) hn, k⟩
  · rintro ⟨h, k⟩
    refine ⟨fun r h1 h2 hn => ?_, k⟩
    have := h r.toNat (by omega)
    unfold V8.nth at this
    rw [Int.toNat_of_nonneg h1] at this
    exact this hn
theorem late_iff {A : List OpG} {o : OpG} (h0 : 0 ≤ o.r) (h8 : o.r < 8) : Cz.Late MO A o ↔ (∃ r : Nat, r < 8 ∧ o.d.nth r ≠ 0 ∧ o.d.nth r ≤ (knownV A).nth r ∧ (o.d.nth r, (r : Int)) ∉ Cz.ids MO A) ∨ o.d.at o.r < (knownV A).at o.r := by
  unfold Cz.Late
  rw [show (MO.id o).2 = o.r from rfl, ← knownV_at A o.r h0 h8]
  constructor
  · rintro (⟨r, h1, h2, h3, h4, h5⟩ | h)
    · refine .inl ⟨r.toNat, by omega, ?_⟩
      rw [knownV_nth _ _ (by omega)]
      unfold V8.nth
      rw [Int.toNat_of_nonneg h1]
      exact ⟨h3, h4, h5⟩
    · exact .inr h
  · rintro (⟨r, h2, h3, h4, h5⟩ | h)
    · rw [knownV_nth _ _ h2] at h4
      exact .inl ⟨r, by omega, by omega, h3, h4, h5⟩
    · exact .inr h
theorem ops_ext {x : World} {b : Nat} {c : Array Value} {T : TypeId} {fr : Nat × Nat} (h : x.heap[b]? = some (.cells c T fr)) : ∀ y, (∃ n, y = ext x n) → ∀ (j : Nat) (v : Value), c[j]? = some v → y.cell? ⟨b, 0 + j, none⟩ = some v := by
  rintro y ⟨n, rfl⟩ j v hv
  rw [blk_cell (((ext_below x n).block _ (heap_lt h)).trans h), Nat.zero_add]
  exact hv
set_option maxHeartbeats 8000000 in
set_option maxRecDepth 100000 in
theorem ready_any (w : World) (s : Nat) (A W T : List OpG) (F : Nat → Prop) (h : StoreT w s A W T F) (o : OpG) (h0 : 0 ≤ o.r) (h8 : o.r < 8) (g : Bool) (hg : g = decide (Cz.Ready MO A o)) :
    Calls Tryd.prog 23 #[ptr s, o.val] w fun e w' => e = .returned (.bool g) ∧ Below w.heap.size w w' := by
  obtain ⟨tb, db, va, vw, hS⟩ := h
  have HS := Lib.hid hS
  have HG := Lib.hid hg
  have HR := Lib.hid (ready_iff (A := A) h0 h8)
  clear hS hg
  go_enter Tryd.func23, Tryd.ntmps23
  go_upto_region 1 with fail
  refine wp_let' (OpBox o w) (opBox_new o w) (fun x hx => ?_)
  have HX := Lib.hid hx
  clear hx
  have e0 := blk_cell HX.out.2 (2 + 0)
  have e1 := blk_cell HX.out.2 (2 + 1)
  have e2 := blk_cell HX.out.2 (2 + 2)
  have e3 := blk_cell HX.out.2 (2 + 3)
  have e4 := blk_cell HX.out.2 (2 + 4)
  have e5 := blk_cell HX.out.2 (2 + 5)
  have e6 := blk_cell HX.out.2 (2 + 6)
  have e7 := blk_cell HX.out.2 (2 + 7)
  simp only [Nat.reduceAdd] at e0 e1 e2 e3 e4 e5 e6 e7
  go_wp2_with fail
  have HSX := Lib.hid (HS.out.later HX.out.1)
  have HRV := Lib.hid (And.intro h0 h8)
  clear e0 e1 e2 e3 e4 e5 e6 e7 h0 h8
  go_loopw [9] (fun j wj => ∃ k : Nat, k ≤ 8 ∧ j = .int .i64 k ∧ wj = x ∧ ∀ r : Nat, r < k → o.d.nth r ≠ 0 → (o.d.nth r, (r : Int)) ∈ Cz.ids MO A) (fun j _ => 8 - (RowKit.intOf j).toNat)
  case atStart => exact ⟨0, by omega, rfl, rfl, fun r hr => by omega⟩
  case round =>
    obtain ⟨k, hk, rfl, rfl, hd⟩ := hrel
    have HD := Lib.hid hd
    clear hd
    by_cases hk8 : k < 8
    · have ix := idx_nth o.d k hk8
      have d8 : decide ((k : Int) < 8) = true := decide_eq_true (by omega)
      by_cases hz : o.d.nth k = 0
      · have dk : (o.d.nth k != 0) = false := by simp [hz]
        have H0 := Lib.hid hz
        clear hz
        go_wp2
        go_roundw
        case rel => exact ⟨k + 1, by omega, by go_num, (by first | trivial | rfl), fun r hr h => by
          by_cases e : r = k
          · subst e; exact absurd H0.out h
          · exact HD.out r (by omega) h⟩
        case measure => simp [intOf]; omega
      · have dk : (o.d.nth k != 0) = true := by simp [hz]
        have H0 := Lib.hid hz
        have t2 := blk_cell HSX.out.top 2
        have f2 := blk_free HSX.out.top 2
        have hl := HSX.out.lookD (o.d.nth k) (k : Int)
        by_cases hin : (o.d.nth k, (k : Int)) ∈ Cz.ids MO A
        · rw [decide_eq_true hin] at hl
          have HIN := Lib.hid hin
          clear hin hz
          go_wp2
          go_roundw
          case rel => exact ⟨k + 1, by omega, by go_num, (by first | trivial | rfl), fun r hr h => by
            by_cases e : r = k
            · subst e; exact HIN.out
            · exact HD.out r (by omega) h⟩
          case measure => simp [intOf]; omega
        · rw [decide_eq_false hin] at hl
          have HV := Lib.hid (show g = false by rw [HG.out]; exact decide_eq_false (fun h => hin ((HR.out.1 h).1 k hk8 hz)))
          clear hin hz
          go_wp2
          go_ret
          exact ⟨ret_bool HV.out.symm, HX.out.1⟩
    · have hk8' : k = 8 := by omega
      subst hk8'
      have d8 : decide (((8 : Nat) : Int) < 8) = false := by decide
      have HV := Lib.hid (show (o.d.at o.r == (knownV A).at o.r) = g by
        rw [HG.out, Bool.eq_iff_iff, beq_iff_eq, decide_eq_true_iff, HR.out]
        exact ⟨fun h => ⟨HD.out, h⟩, fun h => h.2⟩)
      obtain ⟨hr0, hr8⟩ := HRV.out
      have HTOP := Lib.hid HSX.out.top
      have HO1 := Lib.hid (fun z => own_any o.d o hr0 hr8 z)
      have HO2 := Lib.hid (fun z => own_any (knownV A) o hr0 hr8 z)
      have hx2 := HX.out.2
      have e0 := fun n => (ext_cell wr n _ (heap_lt hx2)).trans (blk_cell hx2 (2 + 0))
      have e1 := fun n => (ext_cell wr n _ (heap_lt hx2)).trans (blk_cell hx2 (2 + 1))
      have e2 := fun n => (ext_cell wr n _ (heap_lt hx2)).trans (blk_cell hx2 (2 + 2))
      have e3 := fun n => (ext_cell wr n _ (heap_lt hx2)).trans (blk_cell hx2 (2 + 3))
      have e4 := fun n => (ext_cell wr n _ (heap_lt hx2)).trans (blk_cell hx2 (2 + 4))
      have e5 := fun n => (ext_cell wr n _ (heap_lt hx2)).trans (blk_cell hx2 (2 + 5))
      have e6 := fun n => (ext_cell wr n _ (heap_lt hx2)).trans (blk_cell hx2 (2 + 6))
      have e7 := fun n => (ext_cell wr n _ (heap_lt hx2)).trans (blk_cell hx2 (2 + 7))
      have k0 := fun n => (ext_cell wr n _ (heap_lt HTOP.out)).trans (blk_cell HTOP.out (3 + 0))
      have k1 := fun n => (ext_cell wr n _ (heap_lt HTOP.out)).trans (blk_cell HTOP.out (3 + 1))
      have k2 := fun n => (ext_cell wr n _ (heap_lt HTOP.out)).trans (blk_cell HTOP.out (3 + 2))
      have k3 := fun n => (ext_cell wr n _ (heap_lt HTOP.out)).trans (blk_cell HTOP.out (3 + 3))
      have k4 := fun n => (ext_cell wr n _ (heap_lt HTOP.out)).trans (blk_cell HTOP.out (3 + 4))
      have k5 := fun n => (ext_cell wr n _ (heap_lt HTOP.out)).trans (blk_cell HTOP.out (3 + 5))
      have k6 := fun n => (ext_cell wr n _ (heap_lt HTOP.out)).trans (blk_cell HTOP.out (3 + 6))
      have k7 := fun n => (ext_cell wr n _ (heap_lt HTOP.out)).trans (blk_cell HTOP.out (3 + 7))
      simp only [Nat.reduceAdd] at e0 e1 e2 e3 e4 e5 e6 e7 k0 k1 k2 k3 k4 k5 k6 k7
      have f3 := fun n => (ext_below wr n).frozen (p := ⟨s, 3, none⟩) (heap_lt HTOP.out)
      have HLD := Lib.hid (ops_ext hx2)
      clear hx2 HD HS HSX HRV HR hr0 hr8
      go_upto_region 7 with fail
      refine region_ext (by kernel_rfl) (by kernel_rfl) ?_
      iterate 2 (go_big_quiet_step (fail))
      go_big_quiet_want
      refine quiet_loadS (.tmp 3) 39 rfl (b := w.heap.size) (off := 0) (cs := OpG.cells o) rfl Tryd.underlying39 (by kernel_rfl) HLD.out ?_
      go_big_quiet_on
      simp only [Act.put, List.setIfInBounds_toArray, List.set_cons_zero, List.set_cons_succ]
      go_big_quiet_step (with_reducible exact calls_ext (HO1.out _))
      iterate 4 (go_big_quiet_step (fail))
      go_big_quiet_want
      refine quiet_loadS (.tmp 3) 39 rfl (b := w.heap.size) (off := 0) (cs := OpG.cells o) rfl Tryd.underlying39 (by kernel_rfl) HLD.out ?_
      go_big_quiet_on
      simp only [Act.put, List.setIfInBounds_toArray, List.set_cons_zero, List.set_cons_succ]
      go_big_quiet_step (with_reducible exact calls_ext (HO2.out _))
      repeat (go_big_quiet_step (fail))
      refine wpQuiet_nil ?_
      rintro _ ⟨nq, rfl⟩
      go_wp2_with fail
      go_ret
      exact ⟨ret_bool HV.out, HX.out.1.trans ((ext_below wr nq).mono HX.out.1.size)⟩
theorem top_known {x : World} {s tb db : Nat} {va vw : Value} {v : V8} (h : x.heap[s]? = some (.cells (stC va vw tb db v) 55 (0, 0))) {k : Nat} (hk : k < 8) : x.cell? ⟨s, 3 + k, none⟩ = some (.int .i64 (v.nth k)) := by
  rw [blk_cell h]
  rcases nat8 hk with rfl | rfl | rfl | rfl | rfl | rfl | rfl | rfl <;> rfl
set_option maxHeartbeats 8000000 in
set_option maxRecDepth 100000 in
theorem late_any (w : World) (s : Nat) (A W T : List OpG) (F : Nat → Prop) (h : StoreT w s A W T F) (o : OpG) (h0 : 0 ≤ o.r) (h8 : o.r < 8) (g : Bool) (hg : g = decide (Cz.Late MO A o)) :
    Calls Tryd.prog 22 #[ptr s, o.val] w fun e w' => e = .returned (.bool g) ∧ Below w.heap.size w w' := by
  obtain ⟨tb, db, va, vw, hS⟩ := h
  have HS := Lib.hid hS
  have HG := Lib.hid hg
  have HR := Lib.hid (late_iff (A := A) h0 h8)
  clear hS hg
  go_enter Tryd.func22, Tryd.ntmps22
  go_upto_region 1 with fail
  refine wp_let' (OpBox o w) (opBox_new o w) (fun x hx => ?_)
  have HX := Lib.hid hx
  clear hx
  have e0 := blk_cell HX.out.2 (2 + 0)
  have e1 := blk_cell HX.out.2 (2 + 1)
  have e2 := blk_cell HX.out.2 (2 + 2)
  have e3 := blk_cell HX.out.2 (2 + 3)
  have e4 := blk_cell HX.out.2 (2 + 4)
  have e5 := blk_cell HX.out.2 (2 + 5)
  have e6 := blk_cell HX.out.2 (2 + 6)
  have e7 := blk_cell HX.out.2 (2 + 7)
  simp only [Nat.reduceAdd] at e0 e1 e2 e3 e4 e5 e6 e7
  go_wp2_with fail
  have HSX := Lib.hid (HS.out.later HX.out.1)
  have HRV := Lib.hid (And.intro h0 h8)
  clear e0 e1 e2 e3 e4 e5 e6 e7 h0 h8
  go_loopw [9] (fun j wj => ∃ k : Nat, k ≤ 8 ∧ j = .int .i64 k ∧ wj = x ∧ ∀ r : Nat, r < k → o.d.nth r ≠ 0 → o.d.nth r ≤ (knownV A).nth r → (o.d.nth r, (r : Int)) ∈ Cz.ids MO A) (fun j _ => 8 - (RowKit.intOf j).toNat)
  case atStart => exact ⟨0, by omega, rfl, rfl, fun r hr => by omega⟩
  case round =>
    obtain ⟨k, hk, rfl, rfl, hd⟩ := hrel
    have HD := Lib.hid hd
    clear hd
    by_cases hk8 : k < 8
    · have ix := idx_nth o.d k hk8
      have d8 : decide ((k : Int) < 8) = true := decide_eq_true (by omega)
      by_cases hz : o.d.nth k = 0
      · have dk : (o.d.nth k != 0) = false := by simp [hz]
        have H0 := Lib.hid hz
        clear hz
        go_wp2
        go_roundw
        case rel => exact ⟨k + 1, by omega, by go_num, (by first | trivial | rfl), fun r hr h h' => by
          by_cases e : r = k
          · subst e; exact absurd H0.out h
          · exact HD.out r (by omega) h h'⟩
        case measure => simp [intOf]; omega
      · have dk : (o.d.nth k != 0) = true := by simp [hz]
        have H0 := Lib.hid hz
        have t2 := blk_cell HSX.out.top 2
        have f2 := blk_free HSX.out.top 2
        have tk := top_known HSX.out.top hk8
        have hkb : (k : Int) < 8 := by omega
        have hl := HSX.out.lookD (o.d.nth k) (k : Int)
        by_cases hle : o.d.nth k ≤ (knownV A).nth k
        · have dl : decide (o.d.nth k ≤ (knownV A).nth k) = true := decide_eq_true hle
          by_cases hin : (o.d.nth k, (k : Int)) ∈ Cz.ids MO A
          · rw [decide_eq_true hin] at hl
            have HIN := Lib.hid hin
            clear hin hz hle
            go_wp2
            go_roundw
            case rel => exact ⟨k + 1, by omega, by go_num, (by first | trivial | rfl), fun r hr h h' => by
              by_cases e : r = k
              · subst e; exact HIN.out
              · exact HD.out r (by omega) h h'⟩
            case measure => simp [intOf]; omega
          · rw [decide_eq_false hin] at hl
            have HV := Lib.hid (show g = true by rw [HG.out]; exact decide_eq_true (HR.out.2 (.inl ⟨k, hk8, hz, hle, hin⟩)))
            clear hin hz hle
            go_wp2
            go_ret
            exact ⟨ret_bool HV.out.symm, HX.out.1⟩
        · have dl : decide (o.d.nth k ≤ (knownV A).nth k) = false := decide_eq_false hle
          have HLE := Lib.hid hle
          clear hz hle hl
          go_wp2
          go_roundw
          case rel => exact ⟨k + 1, by omega, by go_num, (by first | trivial | rfl), fun r hr h h' => by
            by_cases e : r = k
            · subst e; exact absurd h' HLE.out
            · exact HD.out r (by omega) h h'⟩
          case measure => simp [intOf]; omega
    · have hk8' : k = 8 := by omega
      subst hk8'
      have d8 : decide (((8 : Nat) : Int) < 8) = false := by decide
      have HV := Lib.hid (show (decide (o.d.at o.r < (knownV A).at o.r)) = g by
        rw [HG.out, Bool.eq_iff_iff, decide_eq_true_iff, decide_eq_true_iff, HR.out]
        exact ⟨.inr, fun h => h.resolve_left (fun ⟨r, h1, h2, h3, h4⟩ => h4 (HD.out r h1 h2 h3))⟩)
      obtain ⟨hr0, hr8⟩ := HRV.out
      have HTOP := Lib.hid HSX.out.top
      have HO1 := Lib.hid (fun z => own_any o.d o hr0 hr8 z)
      have HO2 := Lib.hid (fun z => own_any (knownV A) o hr0 hr8 z)
      have hx2 := HX.out.2
      have e0 := fun n => (ext_cell wr n _ (heap_lt hx2)).trans (blk_cell hx2 (2 + 0))
      have e1 := fun n => (ext_cell wr n _ (heap_lt hx2)).trans (blk_cell hx2 (2 + 1))
      have e2 := fun n => (ext_cell wr n _ (heap_lt hx2)).trans (blk_cell hx2 (2 + 2))
      have e3 := fun n => (ext_cell wr n _ (heap_lt hx2)).trans (blk_cell hx2 (2 + 3))
      have e4 := fun n => (ext_cell wr n _ (heap_lt hx2)).trans (blk_cell hx2 (2 + 4))
      have e5 := fun n => (ext_cell wr n _ (heap_lt hx2)).trans (blk_cell hx2 (2 + 5))
      have e6 := fun n => (ext_cell wr n _ (heap_lt hx2)).trans (blk_cell hx2 (2 + 6))
      have e7 := fun n => (ext_cell wr n _ (heap_lt hx2)).trans (blk_cell hx2 (2 + 7))
      have k0 := fun n => (ext_cell wr n _ (heap_lt HTOP.out)).trans (blk_cell HTOP.out (3 + 0))
      have k1 := fun n => (ext_cell wr n _ (heap_lt HTOP.out)).trans (blk_cell HTOP.out (3 + 1))
      have k2 := fun n => (ext_cell wr n _ (heap_lt HTOP.out)).trans (blk_cell HTOP.out (3 + 2))
      have k3 := fun n => (ext_cell wr n _ (heap_lt HTOP.out)).trans (blk_cell HTOP.out (3 + 3))
      have k4 := fun n => (ext_cell wr n _ (heap_lt HTOP.out)).trans (blk_cell HTOP.out (3 + 4))
      have k5 := fun n => (ext_cell wr n _ (heap_lt HTOP.out)).trans (blk_cell HTOP.out (3 + 5))
      have k6 := fun n => (ext_cell wr n _ (heap_lt HTOP.out)).trans (blk_cell HTOP.out (3 + 6))
      have k7 := fun n => (ext_cell wr n _ (heap_lt HTOP.out)).trans (blk_cell HTOP.out (3 + 7))
      simp only [Nat.reduceAdd] at e0 e1 e2 e3 e4 e5 e6 e7 k0 k1 k2 k3 k4 k5 k6 k7
      have f3 := fun n => (ext_below wr n).frozen (p := ⟨s, 3, none⟩) (heap_lt HTOP.out)
      have HLD := Lib.hid (ops_ext hx2)
      clear hx2 HD HS HSX HRV HR hr0 hr8
      go_upto_region 7 with fail
      refine region_ext (by kernel_rfl) (by kernel_rfl) ?_
      iterate 2 (go_big_quiet_step (fail))
      go_big_quiet_want
      refine quiet_loadS (.tmp 3) 39 rfl (b := w.heap.size) (off := 0) (cs := OpG.cells o) rfl Tryd.underlying39 (by kernel_rfl) HLD.out ?_
      go_big_quiet_on
      simp only [Act.put, List.setIfInBounds_toArray, List.set_cons_zero, List.set_cons_succ]
      go_big_quiet_step (with_reducible exact calls_ext (HO1.out _))
      iterate 4 (go_big_quiet_step (fail))
      go_big_quiet_want
      refine quiet_loadS (.tmp 3) 39 rfl (b := w.heap.size) (off := 0) (cs := OpG.cells o) rfl Tryd.underlying39 (by kernel_rfl) HLD.out ?_
      go_big_quiet_on
      simp only [Act.put, List.setIfInBounds_toArray, List.set_cons_zero, List.set_cons_succ]
      go_big_quiet_step (with_reducible exact calls_ext (HO2.out _))
      repeat (go_big_quiet_step (fail))
      refine wpQuiet_nil ?_
      rintro _ ⟨nq, rfl⟩
      go_wp2_with fail
      go_ret
      exact ⟨ret_bool HV.out, HX.out.1.trans ((ext_below wr nq).mono HX.out.1.size)⟩
end Go.Proofs.YtiamohfpohjdpaaDoor
