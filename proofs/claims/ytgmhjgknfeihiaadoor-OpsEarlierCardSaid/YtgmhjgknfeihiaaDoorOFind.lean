/- THE PLACE OF AN OPERATION IN A LIST, by the document: what it answers. -/
import Derived.Test.YtgmhjgknfeihiaaDoorOClosed
namespace Go.Proofs.YtgmhjgknfeihiaaDoor
open Go.RowKit Go.Joins
set_option linter.unusedSimpArgs false
set_option linter.unusedVariables false
/-- the first place of a stamp, or -1 -/
def FindR (L : List OpG) (k : Int × Int) (z : Int) : Prop :=
  (∃ q : Nat, z = (q : Int) ∧ (∃ o, L[q]? = some o ∧ o.id = k) ∧ ∀ (j : Nat) p, j < q → L[j]? = some p → p.id ≠ k) ∨ (z = -1 ∧ k ∉ ids L)
set_option maxHeartbeats 4000000 in
theorem find_any (w : World) (ao : Option Addr) (cap : Nat) (L : List OpG) (n r : Int) (hA : OpsAt w ao L) (hn : L.length < 4294967296) :
    Calls Tryd.prog 19 #[.slice ao L.length cap, st n r] w fun e w' => ∃ z, e = .returned (.int .i64 z) ∧ FindR L (n, r) z ∧ Below w.heap.size w w' := by
  have HA := Lib.hid hA
  clear hA
  have hgs := run_stGuard
  go_enter Tryd.func19, Tryd.ntmps19
  go_upto_region 1 with fail
  refine wp_let (fun y => Below w.heap.size w y ∧ y.heap[w.heap.size]? = some (.cells #[.int .i64 n, .int .i64 r] 23 (0, 0))) ⟨(Below.refl _ _).alloc (Nat.le_refl _) _, blk_new _ _⟩ (fun x hx => ?_)
  have HX := Lib.hid hx
  clear hx
  go_wp2_with fail
  go_loopw [5] (fun i wr => ∃ q : Nat, q ≤ L.length ∧ i = .int .i64 q ∧ (Below w.heap.size w wr ∧ wr.heap[w.heap.size]? = some (.cells #[.int .i64 n, .int .i64 r] 23 (0, 0))) ∧ ∀ (j : Nat) p, j < q → L[j]? = some p → p.id ≠ (n, r)) (fun i _ => L.length - (RowKit.intOf i).toNat)
  case atStart => exact ⟨0, by omega, rfl, HX.out, fun j p h => by omega⟩
  case round =>
    obtain ⟨q, hq, rfl, hx, hno⟩ := hrel
    have HX := Lib.hid hx
    have HN := Lib.hid hno
    clear hx hno
    by_cases hql : q < L.length
    · obtain ⟨o, ho⟩ : ∃ o, L[q]? = some o := ⟨_, List.getElem?_eq_getElem hql⟩
      obtain ⟨b, off, rfl, hbw, hc⟩ := (HA.out.below HX.out.1) q o ho
      have HO := Lib.hid ho
      have b0 : (0 : Int) ≤ (q : Int) := by omega
      have b1 : (q : Int) < (L.length : Int) := by omega
      have c0 : wr.drew.cell? ⟨b, off + q * 26, none⟩ = some (.int .i64 o.n) := hc 0 _ rfl
      have c1 : wr.drew.cell? ⟨b, off + q * 26 + 1, none⟩ = some (.int .i64 o.r) := hc 1 _ rfl
      have s0 : wr.drew.cell? ⟨w.heap.size, 0, none⟩ = some (.int .i64 n) := blk_cell HX.out.2 0
      have s1 : wr.drew.cell? ⟨w.heap.size, 1, none⟩ = some (.int .i64 r) := blk_cell HX.out.2 1
      clear hc ho hbw
      by_cases hk : o.id = (n, r)
      · have hb : (o.n == n && o.r == r) = true := by
          simp only [OpG.id, Prod.mk.injEq] at hk
          simp [hk.1, hk.2]
        have heq := fun w => st_eq hb w
        have HK := Lib.hid hk
        clear hb hk
        go_wp2
        go_region
        go_wp2
        go_ret
        refine ⟨q, rfl, .inl ⟨q, rfl, ⟨o, HO.out, HK.out⟩, HN.out⟩, ?_⟩
        first | exact HX.out.1.drew | exact below_drewN HX.out.1 _
      · have hb : (o.n == n && o.r == r) = false := by
          rw [Bool.eq_false_iff]
          intro e
          simp only [Bool.and_eq_true, beq_iff_eq] at e
          exact hk (by simp [OpG.id, e.1, e.2])
        have heq := fun w => st_eq hb w
        have HK := Lib.hid hk
        clear hb hk
        go_wp2
        go_region
        go_wp2
        go_roundw
        case rel =>
          refine ⟨q + 1, by omega, by go_num, ⟨by first | exact HX.out.1.drew | exact below_drewN HX.out.1 _, ?_⟩, fun j p hj hp => ?_⟩
          · first | exact HX.out.2 | exact ((below_drewN (Below.refl _ _) _).block _ (heap_lt HX.out.2)).trans HX.out.2
          · by_cases e : j = q
            · subst e
              rw [HO.out] at hp
              cases hp
              exact HK.out
            · exact HN.out j p (by omega) hp
        case measure => simp [intOf]; omega
    · have e : q = L.length := by omega
      subst e
      go_wp2
      go_ret
      refine ⟨-1, rfl, .inr ⟨rfl, fun h => ?_⟩, HX.out.1⟩
      obtain ⟨p, hp, e⟩ := List.mem_map.1 h
      obtain ⟨j, hj⟩ := List.mem_iff_getElem?.1 hp
      exact HN.out j p (List.getElem?_eq_some_iff.1 hj).1 hj e
end Go.Proofs.YtgmhjgknfeihiaaDoor
