/- A STORE OF OPERATIONS: what Add hands to slices.DeleteFunc: is it late? then its stamp is forgotten. -/
import Derived.Test.YtiamohfpohjdpaaDoorCNext
namespace Go.Proofs.YtiamohfpohjdpaaDoor
open Go.RowKit Go.Joins
set_option linter.unusedSimpArgs false
set_option linter.unusedVariables false
open Classical

theorem thF_drop {P S : List OpG} {x : OpG} (hn : (Cz.ids MO (P ++ x :: S)).Nodup) (k : Int × Int) : drop (thF (P ++ x :: S)) x.id k = thF (P ++ S) k := by
  have hx : x.id ∉ Cz.ids MO (P ++ S) := by
    have h2 : (Cz.ids MO (x :: (P ++ S))).Nodup := (Cz.ids_perm (M := MO) List.perm_middle).nodup_iff.1 hn
    exact (List.nodup_cons.1 h2).1
  unfold drop thF
  by_cases h : k = x.id
  · rw [if_pos h, if_neg (by rw [h]; exact hx)]
  · rw [if_neg h]
    have : k ∈ Cz.ids MO (P ++ x :: S) ↔ k ∈ Cz.ids MO (P ++ S) := by
      rw [Cz.ids_app, Cz.ids_app, List.mem_append, List.mem_append]
      have : Cz.ids MO (x :: S) = x.id :: Cz.ids MO S := rfl
      rw [this, List.mem_cons]
      constructor
      · rintro (h1 | h1 | h1)
        · exact .inl h1
        · exact absurd h1 h
        · exact .inr h1
      · rintro (h1 | h1)
        · exact .inl h1
        · exact .inr (.inr h1)
    simp [this]
theorem fewer_len {P S : List OpG} {x : OpG} : fewer (thF (P ++ x :: S)) x.id (P ++ x :: S).length = (P ++ S).length := by
  have hm : x.id ∈ Cz.ids MO (P ++ x :: S) := Cz.mem_ids.2 ⟨x, by simp, rfl⟩
  unfold fewer thF
  simp [hm]
set_option maxHeartbeats 8000000 in
set_option maxRecDepth 100000 in
theorem addone_any (z : World) (bx s tb db : Nat) (va vw : Value) (A W P S T : List OpG) (G : Nat → Prop) (x : OpG) (h0 : 0 ≤ x.r) (h8 : x.r < 8) (hS : StoreG z s tb db va vw A A (knownV A) W T G) (hb : z.heap[bx]? = some (.cells #[ptr s] 24 (0, 0))) (hbx : ¬ G bx) (hT : T = P ++ x :: S) (hnd : (Cz.ids MO T).Nodup) (g : Bool) (hg : g = decide (Cz.Late MO A x)) :
    Calls Tryd.prog 28 #[x.val, ptr bx] z fun e z' => e = .returned (.bool g) ∧ (g = false → Below z.heap.size z z') ∧ (g = true → StoreG z' s tb db va vw A A (knownV A) W (P ++ S) G ∧ Ch (fun y => y = tb) z z') := by
  have HS := Lib.hid hS
  have HB := Lib.hid hb
  have HT := Lib.hid (And.intro hT hnd)
  have HBT := Lib.hid (show bx ≠ tb from fun e => hbx (e ▸ hS.fs.2.1))
  have HLT := Lib.hid (fun z' (hz : Below z.heap.size z z') => late_any z' s A W T G ⟨tb, db, va, vw, hS.later hz⟩ x h0 h8 g hg)
  clear hS hb hg hT hnd hbx h0 h8
  go_enter Tryd.func28, Tryd.ntmps28
  go_upto_region 1 with fail
  refine wp_let' (OpBox x z) (opBox_new x z) (fun y hy => ?_)
  have HY := Lib.hid hy
  have b1 := blk_cell ((hy.1.block _ (heap_lt HB.out)).trans HB.out) 0
  have HL1 := Lib.hid (HLT.out y hy.1)
  clear hy HLT
  cases g with
  | false =>
    go_wp2_with (first | (refine wpList_load_whole (.tmp 2) 39 rfl rfl z.heap.size x.cells rfl Tryd.underlying39 (by kernel_rfl) HY.out.2 ?_) | (go_at_call 22; with_reducible refine HL1.out.mono ?_; rintro e y2 ⟨rfl, hb⟩; have HB2 := Lib.hid hb; clear hb))
    go_ret
    first
    | exact ⟨rfl, fun _ => HY.out.1.trans (HB2.out.mono HY.out.1.size), fun h => (by cases h)⟩
    | exact ⟨rfl, HY.out.1.trans (HB2.out.mono HY.out.1.size)⟩
  | true =>
    go_upto_if 8 with (first | (refine wpList_load_whole (.tmp 2) 39 rfl rfl z.heap.size x.cells rfl Tryd.underlying39 (by kernel_rfl) HY.out.2 ?_) | (go_at_call 22; with_reducible refine HL1.out.mono ?_; rintro e y2 ⟨rfl, hb⟩; have HB2 := Lib.hid hb; clear hb))
    clear b1 HL1
    have HX2 := Lib.hid ((HB2.out.block _ (heap_lt HY.out.2)).trans HY.out.2)
    replace HB2 := Lib.hid (HY.out.1.trans (HB2.out.mono HY.out.1.size))
    go_upto_region 3 with fail
    have hbd : Below z.heap.size z y2.drew := HB2.out.trans (Below.refl _ _).drew
    have hS2 := HS.out.later hbd
    obtain ⟨w1, hrun, m1, ch1, sz1⟩ := hS2.there.delete (P := Tryd.prog) keyIs_stamp Tryd.underlying53 31 0 x.id
    simp only [OpG.id] at hrun
    have b1 := blk_cell ((hbd.block _ (heap_lt HB.out)).trans HB.out) 0
    have t1 := blk_cell hS2.top 1
    have c0 : y2.drew.cell? ⟨z.heap.size, 0, none⟩ = some (.int .i64 x.n) := blk_cell HX2.out 0
    have c1 : y2.drew.cell? ⟨z.heap.size, 1, none⟩ = some (.int .i64 x.r) := blk_cell HX2.out 1
    have HFIN := Lib.hid (hS2.putT (T' := P ++ S) ch1 (by
      have h2 := HT.out.2
      rw [HT.out.1] at h2 m1
      rw [← fewer_len (x := x)]
      exact m1.eqv (fun k => thF_drop h2 k)))
    have HC1 := Lib.hid ((Ch.of_below (F := fun y => y = tb) hbd).trans ch1 (fun _ _ h => h))
    clear hbd hS2 m1 ch1 sz1
    go_region
    clear hrun b1 t1 c0 c1
    go_wp2
    go_ret
    first
    | exact ⟨rfl, fun h => (by cases h), fun _ => ⟨HFIN.out, HC1.out⟩⟩
    | exact ⟨rfl, HFIN.out, HC1.out⟩
end Go.Proofs.YtiamohfpohjdpaaDoor
