/- VECTORS: the greatest number, by slices.Max and by the reference. -/
import Derived.Test.YtplnpgmchibnlaaVecLaws
import Derived.BigGuardPart
import Derived.Lib.Hide
import Derived.Laws.IdiomStrings
namespace Go.Proofs.Ytplnpgmchibnlaa
open Go.RowKit Go.Joins

def V8.nth (a : V8) (i : Nat) : Int := a.at i
def V8.mostTo (a : V8) : Nat → Int
  | 0 => a.nth 0
  | k + 1 => mx (a.mostTo k) (a.nth (k + 1))
theorem mostTo_all (a : V8) : a.mostTo 7 = a.most := by
  simp [V8.mostTo, V8.most, V8.nth, V8.at]
theorem nat8 {i : Nat} (h : i < 8) : i = 0 ∨ i = 1 ∨ i = 2 ∨ i = 3 ∨ i = 4 ∨ i = 5 ∨ i = 6 ∨ i = 7 := by omega
def V8.cells (a : V8) : Array Value := #[.int .i64 a.x0, .int .i64 a.x1, .int .i64 a.x2, .int .i64 a.x3, .int .i64 a.x4, .int .i64 a.x5, .int .i64 a.x6, .int .i64 a.x7]
theorem cells_at (a : V8) (i : Nat) (h : i < 8) : a.cells[i]? = some (.int .i64 (a.nth i)) := by
  rcases nat8 h with rfl | rfl | rfl | rfl | rfl | rfl | rfl | rfl <;> simp [V8.cells, V8.nth, V8.at]
theorem cell_vec (w : World) (a : V8) (T i : Nat) (h : i < 8) : (w.alloc (.cells a.cells T)).cell? ⟨w.heap.size, i, none⟩ = some (.int .i64 (a.nth i)) := by
  exact (World.cell?_alloc_mark w a.cells T (0, 0) i).trans (cells_at a i h)


theorem Slot.info : (Try.prog.info? 3).map (fun i => (i.zero, i.size, i.bytes)) = some (some (.int .i64 0), 1, 8) := by kernel_rfl
/-- slices.Max over eight numbers that lie in memory. -/
theorem max_any (a : V8) (b : Nat) (w : World) (hc : ∀ i, i < 8 → w.cell? ⟨b, i, none⟩ = some (.int .i64 (a.nth i))) :
    Calls Try.prog 20 #[.slice (some ⟨b, 0, none⟩) 8 8] w fun e w' => e = .returned (.int .i64 a.most) ∧ w' = w := by
  have hmx := run_mx
  have h0 := hc 0 (by omega)
  have HC := Lib.hid hc
  clear hc
  go_enter Try.func20, Try.ntmps20
  go_wp2
  go_loop [3, 4] (fun n i => ∃ k : Nat, k ≤ 7 ∧ i = .int .i64 ((k : Int) + 1) ∧ n = .int .i64 (a.mostTo k)) (fun _ i => 9 - (intOf i).toNat)
  case atStart => exact ⟨0, by omega, rfl, rfl⟩
  case round =>
    obtain ⟨k, hk, rfl, rfl⟩ := hrel
    by_cases h7 : k < 7
    · have hck := HC.out (k + 1) (by omega)
      go_wp2
      go_round
      case rel => exact ⟨k + 1, by omega, by go_num, rfl⟩
      case measure => simp [intOf]; omega
    · have h7' : k = 7 := by omega
      subst h7'
      rw [mostTo_all]
      go_wp2
      go_ret
      exact ⟨rfl, rfl⟩
theorem most_any (a : V8) (w : World) : Calls Try.prog 14 #[a.val] w fun e w' => e = .returned (.int .i64 a.most) ∧ Below w.heap.size w w' := by
  have hc := fun i h => cell_vec w a 23 i h
  unfold V8.cells at hc
  have HC := Lib.hid hc
  clear hc
  go_enter Try.func14, Try.ntmps14
  go_wp2_with (go_at_call 20; refine (max_any a _ _ (by exact HC.out)).mono ?_; rintro e w' ⟨rfl, rfl⟩)
  go_ret
  exact ⟨rfl, by go_grown⟩

theorem refMost_any (a : V8) (w : World) : Calls Try.prog 18 #[a.val] w fun e w' => e = .returned (.int .i64 a.most) ∧ Below w.heap.size w w' := by
  have hc := fun i h => cell_vec w a 23 i h
  have h0 := hc 0 (by omega)
  unfold V8.cells at hc h0
  have HC := Lib.hid hc
  clear hc
  go_enter Try.func18, Try.ntmps18
  go_wp2
  go_loop [3, 4] (fun n i => ∃ k : Nat, k ≤ 7 ∧ i = .int .i64 ((k : Int) + 1) ∧ n = .int .i64 (a.mostTo k)) (fun _ i => 9 - (intOf i).toNat)
  case atStart => exact ⟨0, by omega, rfl, by simp [V8.mostTo, V8.nth, V8.at]⟩
  case round =>
    obtain ⟨k, hk, rfl, rfl⟩ := hrel
    by_cases h7 : k < 7
    · have hck := HC.out (k + 1) (by omega)
      go_wp2
      all_goals
        go_round
        case rel => exact ⟨k + 1, by omega, by go_num, by simp only [V8.mostTo, mx]; first | (rw [if_pos (by omega)]) | (rw [if_neg (by omega)])⟩
        case measure => simp [intOf]; omega
    · have h7' : k = 7 := by omega
      subst h7'
      rw [mostTo_all]
      go_wp2
      go_ret
      exact ⟨rfl, by go_grown⟩
end Go.Proofs.Ytplnpgmchibnlaa
