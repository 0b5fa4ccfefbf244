/- OF EACH REPLICA THE GREATEST COUNTER, by package ops: what it answers. -/
import Derived.Test.YtgmhjgknfeihiaaDoorOClosed
namespace Go.Proofs.YtgmhjgknfeihiaaDoor
open Go.RowKit Go.Joins
set_option linter.unusedSimpArgs false
set_option linter.unusedVariables false
def V8.zero : V8 := ⟨0, 0, 0, 0, 0, 0, 0, 0⟩
def mostP (L : List OpG) : V8 := L.foldl (fun v o => v.with o.n o.r) V8.zero
theorem mostP_snoc (L : List OpG) (o : OpG) : mostP (L ++ [o]) = (mostP L).with o.n o.r := by unfold mostP; rw [List.foldl_append]; rfl
abbrev V8.row (a : V8) : Array Value := #[.int .i64 a.x0, .int .i64 a.x1, .int .i64 a.x2, .int .i64 a.x3, .int .i64 a.x4, .int .i64 a.x5, .int .i64 a.x6, .int .i64 a.x7]
structure MB (w : World) (v : V8) (y : World) : Prop where
  below : Below w.heap.size w y
  rb : y.heap[w.heap.size]? = some (.cells V8.zero.row 25 (0, 0))
  vb : y.heap[w.heap.size + 1]? = some (.cells v.row 25 (0, 0))
theorem MB.later {w : World} {v : V8} {y z : World} (h : MB w v y) (b : Below y.heap.size y z) : MB w v z :=
  ⟨h.below.trans (b.mono h.below.size), (b.block _ (heap_lt h.rb)).trans h.rb, (b.block _ (heap_lt h.vb)).trans h.vb⟩
theorem mb_new (w : World) : MB w V8.zero ((w.alloc (.cells V8.zero.row 25)).alloc (.cells V8.zero.row 25)) :=
  ⟨((Below.refl _ _).alloc (Nat.le_refl _) _).alloc (by simp) _, blk_alloc (blk_new _ _), by have := blk_new (w.alloc (.cells V8.zero.row 25)) (.cells V8.zero.row 25); simpa using this⟩
structure MO (w : World) (v : V8) (o : OpG) (s : Nat) (y : World) : Prop where
  mb : MB w v y
  ob : y.heap[s]? = some (.cells o.cells 31 (0, 0))
theorem MO.new {w : World} {v : V8} {o : OpG} {y : World} (h : MB w v y) : MO w v o y.heap.size (y.alloc (.cells o.cells 31)) :=
  ⟨h.later ((Below.refl _ _).alloc (Nat.le_refl _) _), blk_new _ _⟩
theorem MO.later {w : World} {v : V8} {o : OpG} {s : Nat} {y z : World} (h : MO w v o s y) (b : Below y.heap.size y z) : MO w v o s z :=
  ⟨h.mb.later b, (b.block _ (heap_lt h.ob)).trans h.ob⟩
theorem MB.put {w : World} {v u : V8} {y z : World} (h : MB w v y) (c : Ch (fun x => x = w.heap.size + 1) y z) (hz : z.heap[w.heap.size + 1]? = some (.cells u.row 25 (0, 0))) : MB w u z :=
  ⟨h.below.trans (c.below h.below.size (fun b hb e => by omega)), c.at h.rb (by omega), hz⟩
set_option maxHeartbeats 8000000 in
set_option maxRecDepth 100000 in
theorem most_ops (w : World) (ao : Option Addr) (cap : Nat) (L : List OpG) (hA : OpsAt w ao L) (hn : L.length < 4294967296) :
    Calls Tryd.prog 12 #[.slice ao L.length cap] w fun e w' => e = .returned (mostP L).val ∧ Below w.heap.size w w' := by
  have HA := Lib.hid hA
  clear hA
  go_enter Tryd.func12, Tryd.ntmps12
  go_upto_region 2 with fail
  refine wp_let (MB w V8.zero) (mb_new w) (fun x hx => ?_)
  have HX := Lib.hid hx
  clear hx
  go_wp2_with fail
  go_loopw [8] (fun i wr => ∃ q : Nat, q ≤ L.length ∧ i = .int .i64 q ∧ MB w (mostP (L.take q)) wr) (fun i _ => L.length - (RowKit.intOf i).toNat)
  case atStart => exact ⟨0, by omega, rfl, HX.out⟩
  case round =>
    obtain ⟨q, hq, rfl, hmb⟩ := hrel
    by_cases hql : q < L.length
    · obtain ⟨o, ho⟩ : ∃ o, L[q]? = some o := ⟨_, List.getElem?_eq_getElem hql⟩
      obtain ⟨b, off, rfl, hbw, hc⟩ := (HA.out.below hmb.below) q o ho
      have HI := Lib.hid hmb
      have HO := Lib.hid ho
      have HC := Lib.hid hc
      have b0 : (0 : Int) ≤ (q : Int) := by omega
      have b1 : (q : Int) < (L.length : Int) := by omega
      clear hc hmb ho hbw
      go_upto_region 5 with (first | refine wpList_load_at (.tmp 10) 31 rfl rfl b (off + q * 26) o.cells rfl Tryd.underlying31 (by kernel_rfl) HC.out ?_ | refine wpList_store_fresh rfl (.tmp 5) (.tmp 11) 31 rfl (wr.heap.size) _ _ rfl (by simp) rfl (by kernel_rfl) (by kernel_rfl) (by kernel_rfl) ?_)
      refine wp_let' (MO w (mostP (L.take q)) o wr.heap.size) (MO.new HI.out) (fun x hx => ?_)
      have HX := Lib.hid hx
      clear hx b0 b1
      have W := Lib.hid (fun w => with_any (mostP (L.take q)) o.n o.r w)
      have HE := Lib.hid (show mostP (L.take (q + 1)) = (mostP (L.take q)).with o.n o.r by rw [take_snoc HO.out, mostP_snoc])
      generalize mostP (L.take q) = v at *
      have c0 : x.cell? ⟨wr.heap.size, 0, none⟩ = some (.int .i64 o.n) := blk_cell HX.out.ob 0
      have c1 : x.cell? ⟨wr.heap.size, 1, none⟩ = some (.int .i64 o.r) := blk_cell HX.out.ob 1
      have e0 := blk_cell HX.out.mb.vb 0
      have e1 := blk_cell HX.out.mb.vb 1
      have e2 := blk_cell HX.out.mb.vb 2
      have e3 := blk_cell HX.out.mb.vb 3
      have e4 := blk_cell HX.out.mb.vb 4
      have e5 := blk_cell HX.out.mb.vb 5
      have e6 := blk_cell HX.out.mb.vb 6
      have e7 := blk_cell HX.out.mb.vb 7
      go_wp2_with fail
      with_reducible refine (W.out _).mono ?_
      rintro e x2 ⟨rfl, h2⟩
      have H2 := Lib.hid (HX.out.later h2)
      clear h2 c0 c1 e0 e1 e2 e3 e4 e5 e6 e7
      generalize v.with o.n o.r = u at *
      go_wp2_with (refine wpList_store_row rfl (.tmp 3) (.tmp 15) 25 rfl (w.heap.size + 1) v.row u.row rfl rfl H2.out.mb.vb (by kernel_rfl) rfl (by kernel_rfl) ?_; intro x3 hc3 hb3)
      go_roundw
      case rel => exact ⟨q + 1, by omega, by go_num, HE.out ▸ H2.out.mb.put hc3 hb3⟩
      case measure => simp [intOf]; omega
    · have e : q = L.length := by omega
      subst e
      rw [List.take_length] at hmb
      have HI := Lib.hid hmb
      clear hmb hq
      obtain ⟨v, hv⟩ : ∃ v, v = mostP L := ⟨_, rfl⟩
      rw [← hv] at HI
      have HV := Lib.hid hv
      clear hv
      have e0 := blk_cell HI.out.vb 0
      have e1 := blk_cell HI.out.vb 1
      have e2 := blk_cell HI.out.vb 2
      have e3 := blk_cell HI.out.vb 3
      have e4 := blk_cell HI.out.vb 4
      have e5 := blk_cell HI.out.vb 5
      have e6 := blk_cell HI.out.vb 6
      have e7 := blk_cell HI.out.vb 7
      go_wp2_with (refine wpList_store_row rfl (.tmp 2) (.tmp 17) 25 rfl (w.heap.size) V8.zero.row v.row rfl rfl HI.out.rb (by kernel_rfl) rfl (by kernel_rfl) ?_; intro x3 hc3 hb3)
      clear e0 e1 e2 e3 e4 e5 e6 e7
      have e0 := blk_cell hb3 0
      have e1 := blk_cell hb3 1
      have e2 := blk_cell hb3 2
      have e3 := blk_cell hb3 3
      have e4 := blk_cell hb3 4
      have e5 := blk_cell hb3 5
      have e6 := blk_cell hb3 6
      have e7 := blk_cell hb3 7
      refine bodyPost_ret (v := v.val) (by simp [results, Tryd.results12, go_sem, e0, e1, e2, e3, e4, e5, e6, e7]) rfl ⟨congrArg (fun v => Ending.returned (V8.val v)) HV.out, ?_⟩
      exact HI.out.below.trans (hc3.below HI.out.below.size (fun b hb e => by omega))
end Go.Proofs.YtgmhjgknfeihiaaDoor
