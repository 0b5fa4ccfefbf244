/- WHAT THE LAWS OF PACKAGE ops HAVE IN COMMON: the live question; a whole operation loaded in a region that only reads. -/
import Derived.Test.YtgmhjgknfeihiaaDoorORightAll
import Derived.Test.YtgmhjgknfeihiaaDoorORefAll
import Derived.Test.YtgmhjgknfeihiaaDoorOOpen
import Derived.Test.YtgmhjgknfeihiaaDoorStoreAt
import Derived.Test.YtgmhjgknfeihiaaDoorRows
namespace Go.Proofs.YtgmhjgknfeihiaaDoor
open Go.RowKit Go.Joins
set_option linter.unusedSimpArgs false
set_option linter.unusedVariables false
def o1 : OpG := ⟨1, 0, ⟨0, 0, 0, 0, 0, 0, 0, 0⟩, 1, 0, 0, 2, 97, 0, 0, nul, nul, nul, 0, 0, false, 0, 0, false⟩
def o2 : OpG := ⟨1, 0, ⟨0, 0, 0, 0, 0, 0, 0, 0⟩, 1, 0, 0, 1, 97, 0, 0, nul, nul, nul, 0, 0, false, 0, 0, false⟩
theorem o1_right : o1.rightP = true := by decide
theorem o2_right : o2.rightP = false := by decide
theorem nul_fine {o : OpG} (h1 : o.key = nul) (h2 : o.name = nul) (h3 : o.value = nul) : o.fine := ⟨by rw [h1]; exact Nat.zero_le _, by rw [h2]; exact Nat.zero_le _, by rw [h3]; exact Nat.zero_le _⟩
theorem r1_any (w : World) : Calls Tryd.prog 9 #[.agg #[.int .i64 1, .int .i64 0, .int .i64 0, .int .i64 0, .int .i64 0, .int .i64 0, .int .i64 0, .int .i64 0, .int .i64 0, .int .i64 0, .int .i64 1, .int .i64 0, .int .i64 0, .int .i64 2, .int .i64 97, .int .i64 0, .int .i64 0, .string ⟨#[]⟩, .string ⟨#[]⟩, .string ⟨#[]⟩, .int .i64 0, .int .i64 0, .bool false, .int .i64 0, .int .i64 0, .bool false]] w fun e w' => e = .returned (.bool true) ∧ Below w.heap.size w w' := by
  have h := opsRight_any o1 (nul_fine rfl rfl rfl) w
  rw [o1_right] at h
  exact h
theorem r2_any (w : World) : Calls Tryd.prog 9 #[.agg #[.int .i64 1, .int .i64 0, .int .i64 0, .int .i64 0, .int .i64 0, .int .i64 0, .int .i64 0, .int .i64 0, .int .i64 0, .int .i64 0, .int .i64 1, .int .i64 0, .int .i64 0, .int .i64 1, .int .i64 97, .int .i64 0, .int .i64 0, .string ⟨#[]⟩, .string ⟨#[]⟩, .string ⟨#[]⟩, .int .i64 0, .int .i64 0, .bool false, .int .i64 0, .int .i64 0, .bool false]] w fun e w' => e = .returned (.bool false) ∧ Below w.heap.size w w' := by
  have h := opsRight_any o2 (nul_fine rfl rfl rfl) w
  rw [o2_right] at h
  exact h
theorem bldA (s : Int) (w : World) : (Instr.build 31 #[(0, .agg #[.int .i64 1, .int .i64 0]), (2, .int .i64 1), (4, .int .i64 s), (5, .int .i64 97)]).run Tryd.prog w =
    .ok (.agg #[.int .i64 1, .int .i64 0, .int .i64 0, .int .i64 0, .int .i64 0, .int .i64 0, .int .i64 0, .int .i64 0, .int .i64 0, .int .i64 0, .int .i64 1, .int .i64 0, .int .i64 0, .int .i64 s, .int .i64 97, .int .i64 0, .int .i64 0, .string ⟨#[]⟩, .string ⟨#[]⟩, .string ⟨#[]⟩, .int .i64 0, .int .i64 0, .bool false, .int .i64 0, .int .i64 0, .bool false]) w := run_build w 31 _ _ (by kernel_rfl)
theorem alive_any (w : World) : Calls Tryd.prog 8 #[] w fun e w' => e = .returned (.bool true) ∧ Below w.heap.size w w' := by
  have R1 := Lib.hid r1_any
  have R2 := Lib.hid r2_any
  have b1 := bldA 2
  have b2 := bldA 1
  go_enter Tryd.func8, Tryd.ntmps8
  go_wp2_with fail
  with_reducible refine (R1.out _).mono ?_
  rintro e w1 ⟨rfl, h1⟩
  have H1 := Lib.hid h1
  clear h1
  go_wp2_with fail
  with_reducible refine (R2.out _).mono ?_
  rintro e w2 ⟨rfl, h2⟩
  have H2 := Lib.hid h2
  clear h2
  go_wp2
  go_ret
  exact ⟨rfl, H1.out.trans (H2.out.mono H1.out.size)⟩
end Go.Proofs.YtgmhjgknfeihiaaDoor
