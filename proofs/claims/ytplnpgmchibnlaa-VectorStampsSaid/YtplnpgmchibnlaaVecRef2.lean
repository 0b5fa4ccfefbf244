/- VECTORS: the reference's With and Join (loops that store). -/
import Derived.Test.YtplnpgmchibnlaaVecRef
namespace Go.Proofs.Ytplnpgmchibnlaa
open Go.RowKit Go.Joins
set_option linter.unusedSimpArgs false

def V8.joinTo (a b : V8) (k : Nat) : V8 := ⟨if 0 < k then mx a.x0 b.x0 else a.x0, if 1 < k then mx a.x1 b.x1 else a.x1, if 2 < k then mx a.x2 b.x2 else a.x2, if 3 < k then mx a.x3 b.x3 else a.x3, if 4 < k then mx a.x4 b.x4 else a.x4, if 5 < k then mx a.x5 b.x5 else a.x5, if 6 < k then mx a.x6 b.x6 else a.x6, if 7 < k then mx a.x7 b.x7 else a.x7⟩
theorem joinTo_0 (a b : V8) : a.joinTo b 0 = a := by simp [V8.joinTo]
theorem joinTo_8 (a b : V8) : a.joinTo b 8 = a.join b := by simp [V8.joinTo, V8.join]
theorem joinTo_nth (a b : V8) {k : Nat} (h : k < 8) : (a.joinTo b k).nth k = a.nth k := by
  rcases nat8 h with rfl | rfl | rfl | rfl | rfl | rfl | rfl | rfl <;> simp [V8.joinTo, V8.nth, V8.at]
theorem joinTo_set (a b : V8) {k : Nat} (h : k < 8) (hl : a.nth k < b.nth k) : (a.joinTo b (k + 1)).cells = (a.joinTo b k).cells.setIfInBounds k (.int .i64 (b.nth k)) := by
  rcases nat8 h with rfl | rfl | rfl | rfl | rfl | rfl | rfl | rfl <;> (simp [V8.nth, V8.at] at hl; simp [V8.joinTo, V8.cells, V8.nth, V8.at, mx, hl])
theorem joinTo_keep (a b : V8) {k : Nat} (h : k < 8) (hl : b.nth k ≤ a.nth k) : a.joinTo b (k + 1) = a.joinTo b k := by
  rcases nat8 h with rfl | rfl | rfl | rfl | rfl | rfl | rfl | rfl <;> (simp [V8.nth, V8.at] at hl; simp [V8.joinTo, mx]; omega)
def V8.withTo (a : V8) (n r : Int) (k : Nat) : V8 := ⟨if 0 < k ∧ r = 0 then mx a.x0 n else a.x0, if 1 < k ∧ r = 1 then mx a.x1 n else a.x1, if 2 < k ∧ r = 2 then mx a.x2 n else a.x2, if 3 < k ∧ r = 3 then mx a.x3 n else a.x3, if 4 < k ∧ r = 4 then mx a.x4 n else a.x4, if 5 < k ∧ r = 5 then mx a.x5 n else a.x5, if 6 < k ∧ r = 6 then mx a.x6 n else a.x6, if 7 < k ∧ r = 7 then mx a.x7 n else a.x7⟩
theorem withTo_0 (a : V8) (n r : Int) : a.withTo n r 0 = a := by simp [V8.withTo]
theorem withTo_8 (a : V8) (n r : Int) : a.withTo n r 8 = a.with n r := by simp [V8.withTo, V8.with]
theorem withTo_nth (a : V8) (n r : Int) {k : Nat} (h : k < 8) : (a.withTo n r k).nth k = a.nth k := by
  rcases nat8 h with rfl | rfl | rfl | rfl | rfl | rfl | rfl | rfl <;> simp [V8.withTo, V8.nth, V8.at]
theorem withTo_set (a : V8) (n : Int) {k : Nat} (h : k < 8) (hl : a.nth k < n) : (a.withTo n k (k + 1)).cells = (a.withTo n k k).cells.setIfInBounds k (.int .i64 n) := by
  rcases nat8 h with rfl | rfl | rfl | rfl | rfl | rfl | rfl | rfl <;> (simp [V8.nth, V8.at] at hl; simp [V8.withTo, V8.cells, mx, hl])
theorem withTo_keep (a : V8) (n r : Int) {k : Nat} (h : k < 8) (hl : (k : Int) = r → n ≤ a.nth k) : a.withTo n r (k + 1) = a.withTo n r k := by
  rcases nat8 h with rfl | rfl | rfl | rfl | rfl | rfl | rfl | rfl <;> (simp [V8.nth, V8.at] at hl; simp [V8.withTo, mx]; omega)

set_option maxHeartbeats 1000000 in
theorem refJoin_any (a b : V8) (w : World) : Calls Try.prog 16 #[a.val, b.val] w fun e w' => e = .returned (a.join b).val ∧ Below w.heap.size w w' := by
  have t0 := Tr.nil w
  go_enter Try.func16, Try.ntmps16
  go_wp2
  go_loopw [5] (fun i wr => ∃ k : Nat, k ≤ 8 ∧ i = .int .i64 (k : Int) ∧ Tr w wr [(w.heap.size + 1 + 1, V8.cells ⟨0, 0, 0, 0, 0, 0, 0, 0⟩, 23), (w.heap.size + 1, b.cells, 23), (w.heap.size, (a.joinTo b k).cells, 23)]) (fun i _ => 8 - (intOf i).toNat)
  case atStart => exact ⟨0, by omega, rfl, by rw [joinTo_0]; have h := ((t0.alloc (C := a.cells) (T := 23)).alloc (C := b.cells) (T := 23)).alloc (C := V8.cells ⟨0, 0, 0, 0, 0, 0, 0, 0⟩) (T := 23); simp only [World.size_alloc] at h; exact h⟩
  case round =>
    obtain ⟨k, hk, rfl, t⟩ := hrel
    have hbel := t.below
    by_cases h8 : k < 8
    · have hck := (t.rules.2.2.2.2.2.2.2.2.2.2.1 k).trans (cells_at _ k h8)
      rw [joinTo_nth a b h8] at hck
      have hdk := (t.rules.2.2.2.2.2.1 k).trans (cells_at _ k h8)
      have hfk := t.rules.2.2.2.2.2.2.2.2.2.2.2.1 k
      by_cases hr : a.nth k < b.nth k
      · have hs := joinTo_set a b h8 hr
        have HS := Lib.hid hs
        clear hs
        go_wp2
        go_quiet (fail)
        go_wp2
        go_roundw
        case rel =>
          refine ⟨k + 1, by omega, by go_num, ?_⟩
          rw [HS.out]
          have t2 := (t.drewN (n := nq)).set (L' := [(w.heap.size + 1 + 1, V8.cells ⟨0, 0, 0, 0, 0, 0, 0, 0⟩, 23), (w.heap.size + 1, b.cells, 23), (w.heap.size, (a.joinTo b k).cells.setIfInBounds k (.int .i64 (b.nth k)), 23)]) w.heap.size k (.int .i64 (b.nth k)) (Nat.le_refl _) (by
            intro p hp
            simp at hp
            rcases hp with rfl | rfl | rfl
            · exact Or.inl ⟨by simp; omega, by simp⟩
            · exact Or.inl ⟨by simp, by simp⟩
            · exact Or.inr ⟨rfl, _, by simp, rfl⟩)
          exact t2
        case measure => simp [intOf]; omega
      · have hs := joinTo_keep a b h8 (by omega)
        have HS := Lib.hid hs
        clear hs
        go_wp2
        go_quiet (fail)
        go_wp2
        go_roundw
        case rel => exact ⟨k + 1, by omega, by go_num, by rw [HS.out]; exact t.drewN⟩
        case measure => simp [intOf]; omega
    · have h8' : k = 8 := by omega
      subst h8'
      rw [joinTo_8] at t
      have r := t.rules
      simp only [Rules, V8.cells] at r
      go_wp2
      refine bodyPost_ret (v := (a.join b).val) (by simp [results, Try.results16, go_sem, r]) rfl ⟨rfl, ?_⟩
      (repeat' (first | with_reducible exact Below.refl _ _ | with_reducible assumption | with_reducible refine below_ext ?_ ?_ | with_reducible refine Below.alloc ?_ ?_ _ | with_reducible refine Below.drew ?_ | with_reducible refine below_drewN ?_ _ | with_reducible refine Below.setCell ?_ ?_ _ | go_size))

set_option maxHeartbeats 1000000 in
theorem refWith_any (a : V8) (n r : Int) (w : World) : Calls Try.prog 13 #[a.val, st n r] w fun e w' => e = .returned (a.with n r).val ∧ Below w.heap.size w w' := by
  have t0 := Tr.nil w
  go_enter Try.func13, Try.ntmps13
  go_wp2
  go_loopw [5] (fun i wr => ∃ k : Nat, k ≤ 8 ∧ i = .int .i64 (k : Int) ∧ Tr w wr [(w.heap.size + 1 + 1, V8.cells ⟨0, 0, 0, 0, 0, 0, 0, 0⟩, 23), (w.heap.size + 1, #[.int .i64 n, .int .i64 r], 27), (w.heap.size, (a.withTo n r k).cells, 23)]) (fun i _ => 8 - (intOf i).toNat)
  case atStart => exact ⟨0, by omega, rfl, by rw [withTo_0]; have h := ((t0.alloc (C := a.cells) (T := 23)).alloc (C := #[.int .i64 n, .int .i64 r]) (T := 27)).alloc (C := V8.cells ⟨0, 0, 0, 0, 0, 0, 0, 0⟩) (T := 23); simp only [World.size_alloc] at h; exact h⟩
  case round =>
    obtain ⟨k, hk, rfl, t⟩ := hrel
    have hbel := t.below
    by_cases h8 : k < 8
    · have hck := (t.rules.2.2.2.2.2.2.2.2.2.2.1 k).trans (cells_at _ k h8)
      rw [withTo_nth a n r h8] at hck
      have hd0 := t.rules.2.2.2.2.2.1 0
      have hd1 := t.rules.2.2.2.2.2.1 1
      have hfk := t.rules.2.2.2.2.2.2.2.2.2.2.2.1 k
      by_cases hr : (k : Int) = r
      · subst hr
        by_cases hl : a.nth k < n
        · have hs := withTo_set a n h8 hl
          have HS := Lib.hid hs
          clear hs
          go_wp2
          go_quiet (fail)
          go_wp2
          go_roundw
          case rel =>
            refine ⟨k + 1, by omega, by go_num, ?_⟩
            rw [HS.out]
            have t2 := (t.drewN (n := nq)).set (L' := [(w.heap.size + 1 + 1, V8.cells ⟨0, 0, 0, 0, 0, 0, 0, 0⟩, 23), (w.heap.size + 1, #[.int .i64 n, .int .i64 k], 27), (w.heap.size, (a.withTo n k k).cells.setIfInBounds k (.int .i64 n), 23)]) w.heap.size k (.int .i64 n) (Nat.le_refl _) (by
              intro p hp
              simp at hp
              rcases hp with rfl | rfl | rfl
              · exact Or.inl ⟨by simp; omega, by simp⟩
              · exact Or.inl ⟨by simp, by simp⟩
              · exact Or.inr ⟨rfl, _, by simp, rfl⟩)
            exact t2
          case measure => simp [intOf]; omega
        · have hs := withTo_keep a n k h8 (fun _ => by omega)
          have HS := Lib.hid hs
          clear hs
          go_wp2
          go_quiet (fail)
          go_wp2
          go_roundw
          case rel => exact ⟨k + 1, by omega, by go_num, by rw [HS.out]; exact t.drewN⟩
          case measure => simp [intOf]; omega
      · have hs := withTo_keep a n r h8 (fun h => absurd h hr)
        have HS := Lib.hid hs
        have hb : ((k : Int) == r) = false := by simp; omega
        clear hs hr
        go_wp2
        go_quiet (fail)
        go_wp2
        go_roundw
        case rel => exact ⟨k + 1, by omega, by go_num, by rw [HS.out]; exact t.drewN⟩
        case measure => simp [intOf]; omega
    · have h8' : k = 8 := by omega
      subst h8'
      rw [withTo_8] at t
      have r1 := t.rules
      simp only [Rules, V8.cells] at r1
      go_wp2
      refine bodyPost_ret (v := (a.with n r).val) (by simp [results, Try.results13, go_sem, r1]) rfl ⟨rfl, ?_⟩
      (repeat' (first | with_reducible exact Below.refl _ _ | with_reducible assumption | with_reducible refine below_ext ?_ ?_ | with_reducible refine Below.alloc ?_ ?_ _ | with_reducible refine Below.drew ?_ | with_reducible refine below_drewN ?_ _ | with_reducible refine Below.setCell ?_ ?_ _ | go_size))
end Go.Proofs.Ytplnpgmchibnlaa
